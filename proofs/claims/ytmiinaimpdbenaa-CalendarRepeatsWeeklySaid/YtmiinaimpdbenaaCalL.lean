/-
  Functions of the program as the abstract machine runs them, and what must be shown of a run: printed by RmPrint.
-/
import Derived.Test.YtmiinaimpdbenaaRmVc
namespace Go.RM
set_option linter.unusedVariables false
set_option maxRecDepth 4000
-- LCalendarFunctionsMatchSpec
def rf_LCalendarFunctionsMatchSpec (nFCalendarFault ncalendar_Open ncalendar_Next ncalendar_Worked ncalendar_Add nLcalendarExample ncalendar_Validate nLtimeFault nFIsOpen nFMinutes nFReach nFFault : Nat) : RFunc := ⟨4, 30, [.var 4],
 ((.seq (.ops [⟨.tomb 1 (.var 0), none, (some 5), true⟩, ⟨.move (.k (.bool false)), none, (some 4), true⟩])
 ((.seq (.ops [⟨.field 0 (some 2) (.var 5), none, none, true⟩, ⟨.callS nFCalendarFault [(.loc 0)], none, none, true⟩, ⟨.tomb 1 (.k (.agg [.int .i64 0, .int .i64 0])), none, (some 6), true⟩, ⟨.upd 2 0 (.loc 2) (.loc 1), none, (some 6), true⟩])
 ((.seq (.ops [⟨.field 0 (some 2) (.var 5), none, none, true⟩, ⟨.move (.var 1), none, none, true⟩, ⟨.callS ncalendar_Open [(.loc 0), (.loc 1)], none, none, true⟩, ⟨.move (.loc 2), none, none, true⟩, ⟨.extract (.loc 3) 0, none, none, true⟩, ⟨.extract (.loc 3) 1, none, none, true⟩, ⟨.tomb 1 (.k (.agg [.int .i64 0, .int .i64 0])), none, (some 9), true⟩, ⟨.move (.loc 4), none, (some 13), true⟩, ⟨.upd 2 0 (.loc 6) (.loc 5), none, (some 9), true⟩])
 ((.seq (.ops [⟨.field 0 (some 2) (.var 5), none, none, true⟩, ⟨.move (.var 1), none, none, true⟩, ⟨.callS ncalendar_Next [(.loc 0), (.loc 1)], none, none, true⟩, ⟨.move (.loc 2), none, none, true⟩, ⟨.extract (.loc 3) 0, none, none, true⟩, ⟨.extract (.loc 3) 1, none, none, true⟩, ⟨.tomb 1 (.k (.agg [.int .i64 0, .int .i64 0])), none, (some 10), true⟩, ⟨.move (.loc 4), none, (some 14), true⟩, ⟨.upd 2 0 (.loc 6) (.loc 5), none, (some 10), true⟩])
 ((.seq (.ops [⟨.field 0 (some 2) (.var 5), none, none, true⟩, ⟨.move (.var 1), none, none, true⟩, ⟨.move (.var 2), none, none, true⟩, ⟨.callS ncalendar_Worked [(.loc 0), (.loc 1), (.loc 2)], none, none, true⟩, ⟨.move (.loc 3), none, none, true⟩, ⟨.extract (.loc 4) 0, none, none, true⟩, ⟨.extract (.loc 4) 1, none, none, true⟩, ⟨.tomb 1 (.k (.agg [.int .i64 0, .int .i64 0])), none, (some 11), true⟩, ⟨.move (.loc 5), none, (some 15), true⟩, ⟨.upd 2 0 (.loc 7) (.loc 6), none, (some 11), true⟩])
 ((.seq (.ops [⟨.field 0 (some 2) (.var 5), none, none, true⟩, ⟨.move (.var 1), none, none, true⟩, ⟨.move (.var 3), none, none, true⟩, ⟨.callS ncalendar_Add [(.loc 0), (.loc 1), (.loc 2)], none, none, true⟩, ⟨.move (.loc 3), none, none, true⟩, ⟨.extract (.loc 4) 0, none, none, true⟩, ⟨.extract (.loc 4) 1, none, none, true⟩, ⟨.tomb 1 (.k (.agg [.int .i64 0, .int .i64 0])), none, (some 12), true⟩, ⟨.move (.loc 5), none, (some 16), true⟩, ⟨.upd 2 0 (.loc 7) (.loc 6), none, (some 12), true⟩])
 ((.seq ((.seq (.ops [⟨.callS nLcalendarExample [], none, none, true⟩, ⟨.un .not (.loc 0), none, none, true⟩, ⟨.move (.loc 1), none, none, true⟩, ⟨.field 0 (some 2) (.var 5), none, none, false⟩, ⟨.callS ncalendar_Validate [(.loc 3)], (some (2, false)), none, false⟩, ⟨.field 0 (some 2) (.var 6), none, none, false⟩, ⟨.bin .neq (.agg [.int, .int]) (.loc 4) (.loc 5), (some (2, false)), none, true⟩, ⟨.pick (.loc 2) (.k (.bool true)) (.loc 6), none, (some 7), true⟩])
 (.cond (.var 7) ((.seq (.ops [⟨.move (.k (.bool false)), none, (some 4), true⟩])
 (.ret))) (.skip))))
 ((.seq (.ops [⟨.field 0 (some 2) (.var 6), none, none, true⟩, ⟨.move (.var 1), none, none, true⟩, ⟨.callS nLtimeFault [(.loc 0), (.loc 1)], none, none, true⟩, ⟨.upd 2 0 (.var 6) (.loc 2), none, (some 6), true⟩])
 ((.seq ((.seq (.ops [⟨.field 0 none (.var 6), none, none, true⟩, ⟨.field 0 none (.var 6), none, none, true⟩, ⟨.bin .neq .no (.loc 1) (.k (.int .i64 0)), none, (some 8), true⟩])
 (.cond (.var 8) ((.seq (.ops [⟨.field 0 (some 2) (.var 9), none, none, true⟩, ⟨.field 0 (some 2) (.var 6), none, none, true⟩, ⟨.bin .eql (.agg [.int, .int]) (.loc 0) (.loc 1), none, none, true⟩, ⟨.move (.loc 2), none, none, true⟩, ⟨.field 0 (some 2) (.var 10), none, none, true⟩, ⟨.field 0 (some 2) (.var 6), none, none, true⟩, ⟨.bin .eql (.agg [.int, .int]) (.loc 4) (.loc 5), none, none, true⟩, ⟨.pick (.loc 3) (.loc 6) (.k (.bool false)), none, none, true⟩, ⟨.move (.loc 7), none, none, true⟩, ⟨.field 0 (some 2) (.var 11), none, none, true⟩, ⟨.field 0 (some 2) (.var 6), none, none, true⟩, ⟨.bin .eql (.agg [.int, .int]) (.loc 9) (.loc 10), none, none, true⟩, ⟨.pick (.loc 8) (.loc 11) (.k (.bool false)), none, none, true⟩, ⟨.move (.loc 12), none, none, true⟩, ⟨.field 0 (some 2) (.var 12), none, none, true⟩, ⟨.field 0 (some 2) (.var 6), none, none, true⟩, ⟨.bin .eql (.agg [.int, .int]) (.loc 14) (.loc 15), none, none, true⟩, ⟨.pick (.loc 13) (.loc 16) (.k (.bool false)), none, none, true⟩, ⟨.move (.loc 17), none, none, true⟩, ⟨.move (.var 13), none, none, true⟩, ⟨.un .not (.loc 19), none, none, true⟩, ⟨.pick (.loc 18) (.loc 20) (.k (.bool false)), none, none, true⟩, ⟨.move (.loc 21), none, none, true⟩, ⟨.move (.var 14), none, none, true⟩, ⟨.bin .eql .no (.loc 23) (.k (.int .i64 0)), none, none, true⟩, ⟨.pick (.loc 22) (.loc 24) (.k (.bool false)), none, none, true⟩, ⟨.move (.loc 25), none, none, true⟩, ⟨.move (.var 15), none, none, true⟩, ⟨.bin .eql .no (.loc 27) (.k (.int .i64 0)), none, none, true⟩, ⟨.pick (.loc 26) (.loc 28) (.k (.bool false)), none, none, true⟩, ⟨.move (.loc 29), none, none, true⟩, ⟨.move (.var 16), none, none, true⟩, ⟨.bin .eql .no (.loc 31) (.k (.int .i64 0)), none, none, true⟩, ⟨.pick (.loc 30) (.loc 32) (.k (.bool false)), none, none, true⟩, ⟨.move (.loc 33), none, (some 4), true⟩])
 (.ret))) (.skip))))
 ((.seq ((.seq (.ops [⟨.field 0 none (.var 9), none, none, true⟩, ⟨.field 0 none (.var 9), none, none, true⟩, ⟨.bin .neq .no (.loc 1) (.k (.int .i64 0)), none, none, true⟩, ⟨.move (.loc 2), none, none, true⟩, ⟨.move (.var 13), none, none, true⟩, ⟨.field 0 (some 2) (.var 5), none, none, true⟩, ⟨.move (.var 1), none, none, true⟩, ⟨.callS nFIsOpen [(.loc 5), (.loc 6)], (some (3, false)), none, true⟩, ⟨.bin .neq .bool (.loc 4) (.loc 7), (some (3, false)), none, true⟩, ⟨.pick (.loc 3) (.k (.bool true)) (.loc 8), none, (some 17), true⟩])
 (.cond (.var 17) ((.seq (.ops [⟨.move (.k (.bool false)), none, (some 4), true⟩])
 (.ret))) (.skip))))
 ((.seq (.ops [⟨.field 0 (some 2) (.var 5), none, none, false⟩, ⟨.move (.var 1), none, none, false⟩, ⟨.field 0 (some 2) (.var 5), none, none, false⟩, ⟨.move (.var 1), none, none, false⟩, ⟨.callS nFMinutes [(.loc 2), (.loc 3)], none, none, false⟩, ⟨.bin .add .no (.loc 4) (.k (.int .i64 1)), none, none, false⟩, ⟨.callS nFReach [(.loc 0), (.loc 1), (.loc 5), (.k (.int .i64 500001))], none, none, true⟩, ⟨.move (.loc 6), none, (some 18), true⟩])
 ((.seq ((.seq (.ops [⟨.move (.var 18), none, none, true⟩, ⟨.bin .lss .no (.loc 0) (.k (.int .i64 0)), none, (some 19), true⟩])
 (.cond (.var 19) ((.seq (.ops [⟨.field 0 (some 2) (.var 10), none, none, false⟩, ⟨.callS nFFault [(.k (.int .i64 6)), (.k (.int .i64 (-21)))], none, none, false⟩, ⟨.bin .neq (.agg [.int, .int]) (.loc 0) (.loc 1), none, none, true⟩, ⟨.move (.loc 2), none, none, true⟩, ⟨.move (.var 14), none, none, true⟩, ⟨.bin .neq .no (.loc 4) (.k (.int .i64 0)), none, none, true⟩, ⟨.pick (.loc 3) (.k (.bool true)) (.loc 5), none, (some 20), true⟩])
 (.cond (.var 20) ((.seq (.ops [⟨.move (.k (.bool false)), none, (some 4), true⟩])
 (.ret))) (.skip)))) ((.seq (.ops [⟨.field 0 none (.var 10), none, none, true⟩, ⟨.field 0 none (.var 10), none, none, true⟩, ⟨.bin .neq .no (.loc 1) (.k (.int .i64 0)), none, none, true⟩, ⟨.move (.loc 2), none, none, true⟩, ⟨.move (.var 14), none, none, true⟩, ⟨.move (.var 18), none, none, true⟩, ⟨.bin .sub .no (.loc 5) (.k (.int .i64 1)), none, none, true⟩, ⟨.bin .neq .no (.loc 4) (.loc 6), none, none, true⟩, ⟨.pick (.loc 3) (.k (.bool true)) (.loc 7), none, (some 21), true⟩])
 (.cond (.var 21) ((.seq (.ops [⟨.move (.k (.bool false)), none, (some 4), true⟩])
 (.ret))) (.skip)))))))
 ((.seq (.ops [⟨.field 0 (some 2) (.var 6), none, none, true⟩, ⟨.move (.var 2), none, none, true⟩, ⟨.callS nLtimeFault [(.loc 0), (.loc 1)], none, none, true⟩, ⟨.tomb 1 (.k (.agg [.int .i64 0, .int .i64 0])), none, (some 22), true⟩, ⟨.upd 2 0 (.loc 3) (.loc 2), none, (some 22), true⟩])
 ((.seq ((.seq (.ops [⟨.field 0 none (.var 22), none, none, true⟩, ⟨.field 0 none (.var 22), none, none, true⟩, ⟨.bin .eql .no (.loc 1) (.k (.int .i64 0)), none, none, true⟩, ⟨.move (.loc 2), none, none, true⟩, ⟨.move (.var 2), none, none, true⟩, ⟨.move (.var 1), none, none, true⟩, ⟨.bin .lss .no (.loc 4) (.loc 5), none, none, true⟩, ⟨.move (.loc 6), none, none, true⟩, ⟨.move (.var 2), none, none, true⟩, ⟨.move (.var 1), none, none, true⟩, ⟨.bin .sub .no (.loc 8) (.loc 9), none, none, true⟩, ⟨.bin .gtr .no (.loc 10) (.k (.int .i64 500000)), none, none, true⟩, ⟨.pick (.loc 7) (.k (.bool true)) (.loc 11), none, none, true⟩, ⟨.pick (.loc 3) (.loc 12) (.k (.bool false)), none, (some 23), true⟩])
 (.cond (.var 23) (.ops [⟨.callS nFFault [(.k (.int .i64 3)), (.k (.int .i64 (-21)))], none, none, true⟩, ⟨.upd 2 0 (.var 22) (.loc 0), none, (some 22), true⟩]) (.skip))))
 ((.seq ((.seq (.ops [⟨.field 0 none (.var 22), none, none, true⟩, ⟨.field 0 none (.var 22), none, none, true⟩, ⟨.bin .neq .no (.loc 1) (.k (.int .i64 0)), none, (some 24), true⟩])
 (.cond (.var 24) ((.seq (.ops [⟨.field 0 (some 2) (.var 11), none, none, true⟩, ⟨.field 0 (some 2) (.var 22), none, none, true⟩, ⟨.bin .neq (.agg [.int, .int]) (.loc 0) (.loc 1), none, none, true⟩, ⟨.move (.loc 2), none, none, true⟩, ⟨.move (.var 15), none, none, true⟩, ⟨.bin .neq .no (.loc 4) (.k (.int .i64 0)), none, none, true⟩, ⟨.pick (.loc 3) (.k (.bool true)) (.loc 5), none, (some 25), true⟩])
 (.cond (.var 25) ((.seq (.ops [⟨.move (.k (.bool false)), none, (some 4), true⟩])
 (.ret))) (.skip)))) ((.seq (.ops [⟨.field 0 none (.var 11), none, none, true⟩, ⟨.field 0 none (.var 11), none, none, true⟩, ⟨.bin .neq .no (.loc 1) (.k (.int .i64 0)), none, none, true⟩, ⟨.move (.loc 2), none, none, true⟩, ⟨.move (.var 15), none, none, false⟩, ⟨.field 0 (some 2) (.var 5), none, none, false⟩, ⟨.move (.var 2), none, none, false⟩, ⟨.callS nFMinutes [(.loc 5), (.loc 6)], (some (3, false)), none, false⟩, ⟨.field 0 (some 2) (.var 5), none, none, false⟩, ⟨.move (.var 1), none, none, false⟩, ⟨.callS nFMinutes [(.loc 8), (.loc 9)], (some (3, false)), none, true⟩, ⟨.bin .sub .no (.loc 7) (.loc 10), (some (3, false)), none, true⟩, ⟨.bin .neq .no (.loc 4) (.loc 11), (some (3, false)), none, true⟩, ⟨.pick (.loc 3) (.k (.bool true)) (.loc 12), none, (some 26), true⟩])
 (.cond (.var 26) ((.seq (.ops [⟨.move (.k (.bool false)), none, (some 4), true⟩])
 (.ret))) (.skip)))))))
 ((.seq ((.seq (.ops [⟨.move (.var 3), none, none, true⟩, ⟨.bin .lss .no (.loc 0) (.k (.int .i64 0)), none, none, true⟩, ⟨.move (.loc 1), none, none, true⟩, ⟨.move (.var 3), none, none, true⟩, ⟨.bin .gtr .no (.loc 3) (.k (.int .i64 500000)), none, none, true⟩, ⟨.pick (.loc 2) (.k (.bool true)) (.loc 4), none, (some 27), true⟩])
 (.cond (.var 27) ((.seq (.ops [⟨.field 0 (some 2) (.var 12), none, none, false⟩, ⟨.callS nFFault [(.k (.int .i64 3)), (.k (.int .i64 (-21)))], none, none, false⟩, ⟨.bin .eql (.agg [.int, .int]) (.loc 0) (.loc 1), none, none, true⟩, ⟨.move (.loc 2), none, none, true⟩, ⟨.move (.var 16), none, none, true⟩, ⟨.bin .eql .no (.loc 4) (.k (.int .i64 0)), none, none, true⟩, ⟨.pick (.loc 3) (.loc 5) (.k (.bool false)), none, none, true⟩, ⟨.move (.loc 6), none, (some 4), true⟩])
 (.ret))) (.skip))))
 ((.seq (.ops [⟨.field 0 (some 2) (.var 5), none, none, false⟩, ⟨.move (.var 1), none, none, false⟩, ⟨.field 0 (some 2) (.var 5), none, none, false⟩, ⟨.move (.var 1), none, none, false⟩, ⟨.callS nFMinutes [(.loc 2), (.loc 3)], none, none, false⟩, ⟨.move (.var 3), none, none, false⟩, ⟨.bin .add .no (.loc 4) (.loc 5), none, none, false⟩, ⟨.callS nFReach [(.loc 0), (.loc 1), (.loc 6), (.k (.int .i64 500000))], none, none, true⟩, ⟨.move (.loc 7), none, (some 28), true⟩])
 ((.seq ((.seq (.ops [⟨.move (.var 28), none, none, true⟩, ⟨.bin .lss .no (.loc 0) (.k (.int .i64 0)), none, (some 29), true⟩])
 (.cond (.var 29) ((.seq (.ops [⟨.field 0 (some 2) (.var 12), none, none, false⟩, ⟨.callS nFFault [(.k (.int .i64 6)), (.k (.int .i64 (-22)))], none, none, false⟩, ⟨.bin .eql (.agg [.int, .int]) (.loc 0) (.loc 1), none, none, true⟩, ⟨.move (.loc 2), none, none, true⟩, ⟨.move (.var 16), none, none, true⟩, ⟨.bin .eql .no (.loc 4) (.k (.int .i64 0)), none, none, true⟩, ⟨.pick (.loc 3) (.loc 5) (.k (.bool false)), none, none, true⟩, ⟨.move (.loc 6), none, (some 4), true⟩])
 (.ret))) (.skip))))
 ((.seq (.ops [⟨.field 0 none (.var 12), none, none, true⟩, ⟨.field 0 none (.var 12), none, none, true⟩, ⟨.bin .eql .no (.loc 1) (.k (.int .i64 0)), none, none, true⟩, ⟨.move (.loc 2), none, none, true⟩, ⟨.move (.var 16), none, none, true⟩, ⟨.move (.var 28), none, none, true⟩, ⟨.bin .eql .no (.loc 4) (.loc 5), none, none, true⟩, ⟨.pick (.loc 3) (.loc 6) (.k (.bool false)), none, none, true⟩, ⟨.move (.loc 7), none, (some 4), true⟩])
 (.ret)))))))))))))))))))))))))))))))))))))))⟩
theorem v_LCalendarFunctionsMatchSpec {F : Nat → Option RFunc} {me nFCalendarFault ncalendar_Open ncalendar_Next ncalendar_Worked ncalendar_Add nLcalendarExample ncalendar_Validate nLtimeFault nFIsOpen nFMinutes nFReach nFFault : Nat} (hF : F me = some (rf_LCalendarFunctionsMatchSpec nFCalendarFault ncalendar_Open ncalendar_Next ncalendar_Worked ncalendar_Add nLcalendarExample ncalendar_Validate nLtimeFault nFIsOpen nFMinutes nFReach nFFault)) {fl : Nat} {H : Heap} {Q : AV → Heap → Prop} (c0 : AV) (c1 : AV) (time2 : Int) (to3 : Int) (minutes4 : Int)
  (h : ∀ (H5 : Heap), Dead1 H 1 H5 → Ret F fl nFCalendarFault [(.agg [c0, c1])] H5 (fun v9 H8 => ∃ (r6 : Int) (r7 : Int), v9 = (.agg [(.int .i64 r6), (.int .i64 r7)]) ∧ ∀ (H10 : Heap), Dead1 H8 1 H10 → Ret F fl ncalendar_Open [(.agg [c0, c1]), (.int .i64 time2)] H10 (fun v15 H14 => ∃ (r11 : Bool) (r12 : Int) (r13 : Int), v15 = (.tuple [(.bool r11), (.agg [(.int .i64 r12), (.int .i64 r13)])]) ∧ ∀ (H16 : Heap), Dead1 H14 1 H16 → Ret F fl ncalendar_Next [(.agg [c0, c1]), (.int .i64 time2)] H16 (fun v21 H20 => ∃ (r17 : Int) (r18 : Int) (r19 : Int), v21 = (.tuple [(.int .i64 r17), (.agg [(.int .i64 r18), (.int .i64 r19)])]) ∧ ∀ (H22 : Heap), Dead1 H20 1 H22 → Ret F fl ncalendar_Worked [(.agg [c0, c1]), (.int .i64 time2), (.int .i64 to3)] H22 (fun v27 H26 => ∃ (r23 : Int) (r24 : Int) (r25 : Int), v27 = (.tuple [(.int .i64 r23), (.agg [(.int .i64 r24), (.int .i64 r25)])]) ∧ ∀ (H28 : Heap), Dead1 H26 1 H28 → Ret F fl ncalendar_Add [(.agg [c0, c1]), (.int .i64 time2), (.int .i64 minutes4)] H28 (fun v33 H32 => ∃ (r29 : Int) (r30 : Int) (r31 : Int), v33 = (.tuple [(.int .i64 r29), (.agg [(.int .i64 r30), (.int .i64 r31)])]) ∧ ∀ (H34 : Heap), Dead1 H32 1 H34 → Ret F fl nLcalendarExample [] H34 (fun v37 H36 => ∃ (r35 : Bool), v37 = (.bool r35) ∧ ((¬(r35 = true)) → Q (.bool false) H36) ∧ (¬(¬(r35 = true)) → Ret F H36.length ncalendar_Validate [(.agg [c0, c1])] H36 (fun v41 H40 => ∃ (r38 : Int) (r39 : Int), v41 = (.agg [(.int .i64 r38), (.int .i64 r39)]) ∧ ((¬(((r38 = r6) ∧ (((r39 = r7) ∧ (True)))))) → Q (.bool false) H40) ∧ (¬(¬(((r38 = r6) ∧ (((r39 = r7) ∧ (True)))))) → Ret F fl nLtimeFault [(.agg [(.int .i64 r6), (.int .i64 r7)]), (.int .i64 time2)] H40 (fun v45 H44 => ∃ (r42 : Int) (r43 : Int), v45 = (.agg [(.int .i64 r42), (.int .i64 r43)]) ∧ ((r42 ≠ 0) → Q (.bool ((((((((((r12) == r42) && (((r13) == r43) && true)) && (((r18) == r42) && (((r19) == r43) && true))) && (((r24) == r42) && (((r25) == r43) && true))) && (((r30) == r42) && (((r31) == r43) && true))) && (!r11)) && ((r17) == 0)) && ((r23) == 0)) && ((r29) == 0))) H44) ∧ (¬(r42 ≠ 0) → ((r12 ≠ 0) → Q (.bool false) H44) ∧ (¬(r12 ≠ 0) → Ret F fl nFIsOpen [(.agg [c0, c1]), (.int .i64 time2)] H44 (fun v48 H47 => ∃ (r46 : Bool), v48 = (.bool r46) ∧ ((¬(r11 = r46)) → Q (.bool false) H47) ∧ (¬(¬(r11 = r46)) → Ret F H47.length nFMinutes [(.agg [c0, c1]), (.int .i64 time2)] H47 (fun v51 H50 => ∃ (r49 : Int), v51 = (.int .i64 r49) ∧ Ret F fl nFReach [(.agg [c0, c1]), (.int .i64 time2), (.int .i64 (IntKind.wrap .i64 (r49 + 1))), (.int .i64 500001)] H50 (fun v54 H53 => ∃ (r52 : Int), v54 = (.int .i64 r52) ∧ ∃ (R55 : Heap → Prop), (((r52 < 0) → Ret F H53.length nFFault [(.int .i64 6), (.int .i64 (-21))] H53 (fun v64 H63 => ∃ (r61 : Int) (r62 : Int), v64 = (.agg [(.int .i64 r61), (.int .i64 r62)]) ∧ ((((¬(((r18 = r61) ∧ (((r19 = r62) ∧ (True)))))) ∨ (r17 ≠ 0))) → Q (.bool false) H63) ∧ (¬(((¬(((r18 = r61) ∧ (((r19 = r62) ∧ (True)))))) ∨ (r17 ≠ 0))) → R55 H63))) ∧ (¬(r52 < 0) → ((((r18 ≠ 0) ∨ (r17 ≠ (IntKind.wrap .i64 (r52 - 1))))) → Q (.bool false) H53) ∧ (¬(((r18 ≠ 0) ∨ (r17 ≠ (IntKind.wrap .i64 (r52 - 1))))) → R55 H53))) ∧ (∀ (H60 : Heap), R55 H60 → Ret F fl nLtimeFault [(.agg [(.int .i64 r42), (.int .i64 r43)]), (.int .i64 to3)] H60 (fun v68 H67 => ∃ (r65 : Int) (r66 : Int), v68 = (.agg [(.int .i64 r65), (.int .i64 r66)]) ∧ ∀ (H69 : Heap), Dead1 H67 1 H69 → ∃ (R70 : Int → Int → Heap → Prop), (((((r65 = 0) ∧ (((to3 < time2) ∨ ((IntKind.wrap .i64 (to3 - time2)) > 500000))))) → Ret F fl nFFault [(.int .i64 3), (.int .i64 (-21))] H69 (fun v78 H77 => ∃ (r75 : Int) (r76 : Int), v78 = (.agg [(.int .i64 r75), (.int .i64 r76)]) ∧ R70 r75 r76 H77)) ∧ (¬(((r65 = 0) ∧ (((to3 < time2) ∨ ((IntKind.wrap .i64 (to3 - time2)) > 500000))))) → R70 r65 r66 H69)) ∧ (∀ (x71 : Int) (x72 : Int) (H74 : Heap), R70 x71 x72 H74 → ∃ (R79 : Heap → Prop), (((x71 ≠ 0) → ((((¬(((r24 = x71) ∧ (((r25 = x72) ∧ (True)))))) ∨ (r23 ≠ 0))) → Q (.bool false) H74) ∧ (¬(((¬(((r24 = x71) ∧ (((r25 = x72) ∧ (True)))))) ∨ (r23 ≠ 0))) → R79 H74)) ∧ (¬(x71 ≠ 0) → ((r24 ≠ 0) → Q (.bool false) H74) ∧ (¬(r24 ≠ 0) → Ret F H74.length nFMinutes [(.agg [c0, c1]), (.int .i64 to3)] H74 (fun v87 H86 => ∃ (r85 : Int), v87 = (.int .i64 r85) ∧ Ret F fl nFMinutes [(.agg [c0, c1]), (.int .i64 time2)] H86 (fun v90 H89 => ∃ (r88 : Int), v90 = (.int .i64 r88) ∧ ((r23 ≠ (IntKind.wrap .i64 (r85 - r88))) → Q (.bool false) H89) ∧ (¬(r23 ≠ (IntKind.wrap .i64 (r85 - r88))) → R79 H89)))))) ∧ (∀ (H84 : Heap), R79 H84 → ((((minutes4 < 0) ∨ (minutes4 > 500000))) → Ret F H84.length nFFault [(.int .i64 3), (.int .i64 (-21))] H84 (fun v94 H93 => ∃ (r91 : Int) (r92 : Int), v94 = (.agg [(.int .i64 r91), (.int .i64 r92)]) ∧ Q (.bool ((((r30) == r91) && (((r31) == r92) && true)) && ((r29) == 0))) H93)) ∧ (¬(((minutes4 < 0) ∨ (minutes4 > 500000))) → Ret F H84.length nFMinutes [(.agg [c0, c1]), (.int .i64 time2)] H84 (fun v97 H96 => ∃ (r95 : Int), v97 = (.int .i64 r95) ∧ Ret F fl nFReach [(.agg [c0, c1]), (.int .i64 time2), (.int .i64 (IntKind.wrap .i64 (r95 + minutes4))), (.int .i64 500000)] H96 (fun v100 H99 => ∃ (r98 : Int), v100 = (.int .i64 r98) ∧ ((r98 < 0) → Ret F H99.length nFFault [(.int .i64 6), (.int .i64 (-22))] H99 (fun v104 H103 => ∃ (r101 : Int) (r102 : Int), v104 = (.agg [(.int .i64 r101), (.int .i64 r102)]) ∧ Q (.bool ((((r30) == r101) && (((r31) == r102) && true)) && ((r29) == 0))) H103)) ∧ (¬(r98 < 0) → Q (.bool (((r30) == 0) && ((r29) == r98))) H99))))))))))))))))))))))))) : Ret F fl me [(.agg [c0, c1]), (.int .i64 time2), (.int .i64 to3), (.int .i64 minutes4)] H Q := by
  refine ret_intro hF rfl ?_
  refine w_seq ?_
  refine w_run [1, 0] ?_
  obtain ⟨H5, hb⟩ : ∃ H', Dead1 H 1 H' := ⟨_, ⟨rfl⟩⟩
  replace h := h H5 hb
  refine t_tomb true 1 (.agg [c0, c1]) [c0, c1] H5 H (by kernel_rfl) rfl hb ?_
  refine t_done [(.agg [c0, c1]), (.int .i64 time2), (.int .i64 to3), (.int .i64 minutes4), (.bool false), (.agg [c0, c1]), .undef, .undef, .undef, .undef, .undef, .undef, .undef, .undef, .undef, .undef, .undef, .undef, .undef, .undef, .undef, .undef, .undef, .undef, .undef, .undef, .undef, .undef, .undef, .undef] H5 (by kernel_rfl) ?_
  refine then_norm ?_
  refine w_seq ?_
  refine w_run [0, 1, 1, 1] ?_
  refine t_call true nFCalendarFault [(.agg [c0, c1])] H5 (by kernel_rfl) h ?_
  clear h
  rintro _ H8 ⟨r6, r7, rfl, h⟩
  obtain ⟨H10, hb⟩ : ∃ H', Dead1 H8 1 H' := ⟨_, ⟨rfl⟩⟩
  replace h := h H10 hb
  refine t_tomb true 1 (.agg [(.int .i64 0), (.int .i64 0)]) [(.int .i64 0), (.int .i64 0)] H10 H8 (by kernel_rfl) rfl hb ?_
  refine t_upd true 2 0 [(.int .i64 0), (.int .i64 0)] (.agg [(.int .i64 r6), (.int .i64 r7)]) [(.int .i64 r6), (.int .i64 r7)] [(.int .i64 r6), (.int .i64 r7)] H10 (by kernel_rfl) rfl (all_c rfl (all_c rfl all_n)) ⟨rfl, Nat.le_of_ble_eq_true (by kernel_rfl), rfl⟩ ?_
  refine t_done [(.agg [c0, c1]), (.int .i64 time2), (.int .i64 to3), (.int .i64 minutes4), (.bool false), (.agg [c0, c1]), (.agg [(.int .i64 r6), (.int .i64 r7)]), .undef, .undef, .undef, .undef, .undef, .undef, .undef, .undef, .undef, .undef, .undef, .undef, .undef, .undef, .undef, .undef, .undef, .undef, .undef, .undef, .undef, .undef, .undef] H10 (by kernel_rfl) ?_
  refine then_norm ?_
  refine w_seq ?_
  refine w_run [0, 0, 1, 0, 0, 0, 1, 0, 1] ?_
  refine t_call true ncalendar_Open [(.agg [c0, c1]), (.int .i64 time2)] H10 (by kernel_rfl) h ?_
  clear h
  rintro _ H14 ⟨r11, r12, r13, rfl, h⟩
  obtain ⟨H16, hb⟩ : ∃ H', Dead1 H14 1 H' := ⟨_, ⟨rfl⟩⟩
  replace h := h H16 hb
  refine t_tomb true 1 (.agg [(.int .i64 0), (.int .i64 0)]) [(.int .i64 0), (.int .i64 0)] H16 H14 (by kernel_rfl) rfl hb ?_
  refine t_upd true 2 0 [(.int .i64 0), (.int .i64 0)] (.agg [(.int .i64 r12), (.int .i64 r13)]) [(.int .i64 r12), (.int .i64 r13)] [(.int .i64 r12), (.int .i64 r13)] H16 (by kernel_rfl) rfl (all_c rfl (all_c rfl all_n)) ⟨rfl, Nat.le_of_ble_eq_true (by kernel_rfl), rfl⟩ ?_
  refine t_done [(.agg [c0, c1]), (.int .i64 time2), (.int .i64 to3), (.int .i64 minutes4), (.bool false), (.agg [c0, c1]), (.agg [(.int .i64 r6), (.int .i64 r7)]), .undef, .undef, (.agg [(.int .i64 r12), (.int .i64 r13)]), .undef, .undef, .undef, (.bool r11), .undef, .undef, .undef, .undef, .undef, .undef, .undef, .undef, .undef, .undef, .undef, .undef, .undef, .undef, .undef, .undef] H16 (by kernel_rfl) ?_
  refine then_norm ?_
  refine w_seq ?_
  refine w_run [0, 0, 1, 0, 0, 0, 1, 0, 1] ?_
  refine t_call true ncalendar_Next [(.agg [c0, c1]), (.int .i64 time2)] H16 (by kernel_rfl) h ?_
  clear h
  rintro _ H20 ⟨r17, r18, r19, rfl, h⟩
  obtain ⟨H22, hb⟩ : ∃ H', Dead1 H20 1 H' := ⟨_, ⟨rfl⟩⟩
  replace h := h H22 hb
  refine t_tomb true 1 (.agg [(.int .i64 0), (.int .i64 0)]) [(.int .i64 0), (.int .i64 0)] H22 H20 (by kernel_rfl) rfl hb ?_
  refine t_upd true 2 0 [(.int .i64 0), (.int .i64 0)] (.agg [(.int .i64 r18), (.int .i64 r19)]) [(.int .i64 r18), (.int .i64 r19)] [(.int .i64 r18), (.int .i64 r19)] H22 (by kernel_rfl) rfl (all_c rfl (all_c rfl all_n)) ⟨rfl, Nat.le_of_ble_eq_true (by kernel_rfl), rfl⟩ ?_
  refine t_done [(.agg [c0, c1]), (.int .i64 time2), (.int .i64 to3), (.int .i64 minutes4), (.bool false), (.agg [c0, c1]), (.agg [(.int .i64 r6), (.int .i64 r7)]), .undef, .undef, (.agg [(.int .i64 r12), (.int .i64 r13)]), (.agg [(.int .i64 r18), (.int .i64 r19)]), .undef, .undef, (.bool r11), (.int .i64 r17), .undef, .undef, .undef, .undef, .undef, .undef, .undef, .undef, .undef, .undef, .undef, .undef, .undef, .undef, .undef] H22 (by kernel_rfl) ?_
  refine then_norm ?_
  refine w_seq ?_
  refine w_run [0, 0, 0, 1, 0, 0, 0, 1, 0, 1] ?_
  refine t_call true ncalendar_Worked [(.agg [c0, c1]), (.int .i64 time2), (.int .i64 to3)] H22 (by kernel_rfl) h ?_
  clear h
  rintro _ H26 ⟨r23, r24, r25, rfl, h⟩
  obtain ⟨H28, hb⟩ : ∃ H', Dead1 H26 1 H' := ⟨_, ⟨rfl⟩⟩
  replace h := h H28 hb
  refine t_tomb true 1 (.agg [(.int .i64 0), (.int .i64 0)]) [(.int .i64 0), (.int .i64 0)] H28 H26 (by kernel_rfl) rfl hb ?_
  refine t_upd true 2 0 [(.int .i64 0), (.int .i64 0)] (.agg [(.int .i64 r24), (.int .i64 r25)]) [(.int .i64 r24), (.int .i64 r25)] [(.int .i64 r24), (.int .i64 r25)] H28 (by kernel_rfl) rfl (all_c rfl (all_c rfl all_n)) ⟨rfl, Nat.le_of_ble_eq_true (by kernel_rfl), rfl⟩ ?_
  refine t_done [(.agg [c0, c1]), (.int .i64 time2), (.int .i64 to3), (.int .i64 minutes4), (.bool false), (.agg [c0, c1]), (.agg [(.int .i64 r6), (.int .i64 r7)]), .undef, .undef, (.agg [(.int .i64 r12), (.int .i64 r13)]), (.agg [(.int .i64 r18), (.int .i64 r19)]), (.agg [(.int .i64 r24), (.int .i64 r25)]), .undef, (.bool r11), (.int .i64 r17), (.int .i64 r23), .undef, .undef, .undef, .undef, .undef, .undef, .undef, .undef, .undef, .undef, .undef, .undef, .undef, .undef] H28 (by kernel_rfl) ?_
  refine then_norm ?_
  refine w_seq ?_
  refine w_run [0, 0, 0, 1, 0, 0, 0, 1, 0, 1] ?_
  refine t_call true ncalendar_Add [(.agg [c0, c1]), (.int .i64 time2), (.int .i64 minutes4)] H28 (by kernel_rfl) h ?_
  clear h
  rintro _ H32 ⟨r29, r30, r31, rfl, h⟩
  obtain ⟨H34, hb⟩ : ∃ H', Dead1 H32 1 H' := ⟨_, ⟨rfl⟩⟩
  replace h := h H34 hb
  refine t_tomb true 1 (.agg [(.int .i64 0), (.int .i64 0)]) [(.int .i64 0), (.int .i64 0)] H34 H32 (by kernel_rfl) rfl hb ?_
  refine t_upd true 2 0 [(.int .i64 0), (.int .i64 0)] (.agg [(.int .i64 r30), (.int .i64 r31)]) [(.int .i64 r30), (.int .i64 r31)] [(.int .i64 r30), (.int .i64 r31)] H34 (by kernel_rfl) rfl (all_c rfl (all_c rfl all_n)) ⟨rfl, Nat.le_of_ble_eq_true (by kernel_rfl), rfl⟩ ?_
  refine t_done [(.agg [c0, c1]), (.int .i64 time2), (.int .i64 to3), (.int .i64 minutes4), (.bool false), (.agg [c0, c1]), (.agg [(.int .i64 r6), (.int .i64 r7)]), .undef, .undef, (.agg [(.int .i64 r12), (.int .i64 r13)]), (.agg [(.int .i64 r18), (.int .i64 r19)]), (.agg [(.int .i64 r24), (.int .i64 r25)]), (.agg [(.int .i64 r30), (.int .i64 r31)]), (.bool r11), (.int .i64 r17), (.int .i64 r23), (.int .i64 r29), .undef, .undef, .undef, .undef, .undef, .undef, .undef, .undef, .undef, .undef, .undef, .undef, .undef] H34 (by kernel_rfl) ?_
  refine then_norm ?_
  refine w_seq ?_
  refine w_seq ?_
  refine w_run [1, 0, 0, 0, 3, 0, 2, 0] ?_
  refine t_call true nLcalendarExample [] H34 (by kernel_rfl) h ?_
  clear h
  rintro _ H36 ⟨r35, rfl, h⟩
  refine t_gd (!r35) false (by kernel_rfl) (fun hc => ?_) (fun hc => ?_)
  · replace h := h.2 ((is_not is_raw).f hc)
    refine t_call false ncalendar_Validate [(.agg [c0, c1])] H36 (by kernel_rfl) h ?_
    clear h
    rintro _ H40 ⟨r38, r39, rfl, h⟩
    refine t_gd false false (by kernel_rfl) (fun _ => ?_) (fun hn => by cases hn)
    refine t_done [(.agg [c0, c1]), (.int .i64 time2), (.int .i64 to3), (.int .i64 minutes4), (.bool false), (.agg [c0, c1]), (.agg [(.int .i64 r6), (.int .i64 r7)]), (.bool (!(((r38) == r6) && (((r39) == r7) && true)))), .undef, (.agg [(.int .i64 r12), (.int .i64 r13)]), (.agg [(.int .i64 r18), (.int .i64 r19)]), (.agg [(.int .i64 r24), (.int .i64 r25)]), (.agg [(.int .i64 r30), (.int .i64 r31)]), (.bool r11), (.int .i64 r17), (.int .i64 r23), (.int .i64 r29), .undef, .undef, .undef, .undef, .undef, .undef, .undef, .undef, .undef, .undef, .undef, .undef, .undef] H40 (by kernel_rfl) ?_
    refine then_norm ?_
    refine w_cond (t := (!(((r38) == r6) && (((r39) == r7) && true)))) rfl (fun hc => ?_) (fun hc => ?_)
    · replace h := h.1 ((is_not (is_and is_eq (is_and is_eq is_true))).t hc)
      refine w_seq ?_
      refine w_run [0] ?_
      refine t_done [(.agg [c0, c1]), (.int .i64 time2), (.int .i64 to3), (.int .i64 minutes4), (.bool false), (.agg [c0, c1]), (.agg [(.int .i64 r6), (.int .i64 r7)]), (.bool (!(((r38) == r6) && (((r39) == r7) && true)))), .undef, (.agg [(.int .i64 r12), (.int .i64 r13)]), (.agg [(.int .i64 r18), (.int .i64 r19)]), (.agg [(.int .i64 r24), (.int .i64 r25)]), (.agg [(.int .i64 r30), (.int .i64 r31)]), (.bool r11), (.int .i64 r17), (.int .i64 r23), (.int .i64 r29), .undef, .undef, .undef, .undef, .undef, .undef, .undef, .undef, .undef, .undef, .undef, .undef, .undef] H40 (by kernel_rfl) ?_
      refine then_norm ?_
      refine w_ret ?_
      refine then_ret ?_
      exact body_ret (vs := [(.bool false)]) _ (by kernel_rfl) rfl h
    · replace h := h.2 ((is_not (is_and is_eq (is_and is_eq is_true))).f hc)
      refine w_skip ?_
      refine then_norm ?_
      refine w_seq ?_
      refine w_run [0, 0, 1, 1] ?_
      refine t_call true nLtimeFault [(.agg [(.int .i64 r6), (.int .i64 r7)]), (.int .i64 time2)] H40 (by kernel_rfl) h ?_
      clear h
      rintro _ H44 ⟨r42, r43, rfl, h⟩
      refine t_upd true 2 0 [(.int .i64 r6), (.int .i64 r7)] (.agg [(.int .i64 r42), (.int .i64 r43)]) [(.int .i64 r42), (.int .i64 r43)] [(.int .i64 r42), (.int .i64 r43)] H44 (by kernel_rfl) rfl (all_c rfl (all_c rfl all_n)) ⟨rfl, Nat.le_of_ble_eq_true (by kernel_rfl), rfl⟩ ?_
      refine t_done [(.agg [c0, c1]), (.int .i64 time2), (.int .i64 to3), (.int .i64 minutes4), (.bool false), (.agg [c0, c1]), (.agg [(.int .i64 r42), (.int .i64 r43)]), (.bool (!(((r38) == r6) && (((r39) == r7) && true)))), .undef, (.agg [(.int .i64 r12), (.int .i64 r13)]), (.agg [(.int .i64 r18), (.int .i64 r19)]), (.agg [(.int .i64 r24), (.int .i64 r25)]), (.agg [(.int .i64 r30), (.int .i64 r31)]), (.bool r11), (.int .i64 r17), (.int .i64 r23), (.int .i64 r29), .undef, .undef, .undef, .undef, .undef, .undef, .undef, .undef, .undef, .undef, .undef, .undef, .undef] H44 (by kernel_rfl) ?_
      refine then_norm ?_
      refine w_seq ?_
      refine w_seq ?_
      refine w_run [0, 0, 0] ?_
      refine t_done [(.agg [c0, c1]), (.int .i64 time2), (.int .i64 to3), (.int .i64 minutes4), (.bool false), (.agg [c0, c1]), (.agg [(.int .i64 r42), (.int .i64 r43)]), (.bool (!(((r38) == r6) && (((r39) == r7) && true)))), (.bool ((r42) != 0)), (.agg [(.int .i64 r12), (.int .i64 r13)]), (.agg [(.int .i64 r18), (.int .i64 r19)]), (.agg [(.int .i64 r24), (.int .i64 r25)]), (.agg [(.int .i64 r30), (.int .i64 r31)]), (.bool r11), (.int .i64 r17), (.int .i64 r23), (.int .i64 r29), .undef, .undef, .undef, .undef, .undef, .undef, .undef, .undef, .undef, .undef, .undef, .undef, .undef] H44 (by kernel_rfl) ?_
      refine then_norm ?_
      refine w_cond (t := ((r42) != 0)) rfl (fun hc => ?_) (fun hc => ?_)
      · replace h := h.1 (is_ne.t hc)
        refine w_seq ?_
        refine w_run [0, 0, 0, 0, 0, 0, 0, 0, 0, 0, 0, 0, 0, 0, 0, 0, 0, 0, 0, 0, 0, 0, 0, 0, 0, 0, 0, 0, 0, 0, 0, 0, 0, 0, 0] ?_
        refine t_done [(.agg [c0, c1]), (.int .i64 time2), (.int .i64 to3), (.int .i64 minutes4), (.bool ((((((((((r12) == r42) && (((r13) == r43) && true)) && (((r18) == r42) && (((r19) == r43) && true))) && (((r24) == r42) && (((r25) == r43) && true))) && (((r30) == r42) && (((r31) == r43) && true))) && (!r11)) && ((r17) == 0)) && ((r23) == 0)) && ((r29) == 0))), (.agg [c0, c1]), (.agg [(.int .i64 r42), (.int .i64 r43)]), (.bool (!(((r38) == r6) && (((r39) == r7) && true)))), (.bool ((r42) != 0)), (.agg [(.int .i64 r12), (.int .i64 r13)]), (.agg [(.int .i64 r18), (.int .i64 r19)]), (.agg [(.int .i64 r24), (.int .i64 r25)]), (.agg [(.int .i64 r30), (.int .i64 r31)]), (.bool r11), (.int .i64 r17), (.int .i64 r23), (.int .i64 r29), .undef, .undef, .undef, .undef, .undef, .undef, .undef, .undef, .undef, .undef, .undef, .undef, .undef] H44 (by kernel_rfl) ?_
        refine then_norm ?_
        refine w_ret ?_
        refine then_ret ?_
        exact body_ret (vs := [(.bool ((((((((((r12) == r42) && (((r13) == r43) && true)) && (((r18) == r42) && (((r19) == r43) && true))) && (((r24) == r42) && (((r25) == r43) && true))) && (((r30) == r42) && (((r31) == r43) && true))) && (!r11)) && ((r17) == 0)) && ((r23) == 0)) && ((r29) == 0)))]) _ (by kernel_rfl) rfl h
      · replace h := h.2 (is_ne.f hc)
        refine w_skip ?_
        refine then_norm ?_
        refine w_seq ?_
        refine w_seq ?_
        refine w_run [0, 0, 0, 0, 0, 0, 0, 3, 2, 0] ?_
        refine t_gd ((r12) != 0) false (by kernel_rfl) (fun hc => ?_) (fun hc => ?_)
        · replace h := h.2 (is_ne.f hc)
          refine t_call true nFIsOpen [(.agg [c0, c1]), (.int .i64 time2)] H44 (by kernel_rfl) h ?_
          clear h
          rintro _ H47 ⟨r46, rfl, h⟩
          refine t_gd false false (by kernel_rfl) (fun _ => ?_) (fun hn => by cases hn)
          refine t_done [(.agg [c0, c1]), (.int .i64 time2), (.int .i64 to3), (.int .i64 minutes4), (.bool false), (.agg [c0, c1]), (.agg [(.int .i64 r42), (.int .i64 r43)]), (.bool (!(((r38) == r6) && (((r39) == r7) && true)))), (.bool ((r42) != 0)), (.agg [(.int .i64 r12), (.int .i64 r13)]), (.agg [(.int .i64 r18), (.int .i64 r19)]), (.agg [(.int .i64 r24), (.int .i64 r25)]), (.agg [(.int .i64 r30), (.int .i64 r31)]), (.bool r11), (.int .i64 r17), (.int .i64 r23), (.int .i64 r29), (.bool (!(r11 == r46))), .undef, .undef, .undef, .undef, .undef, .undef, .undef, .undef, .undef, .undef, .undef, .undef] H47 (by kernel_rfl) ?_
          refine then_norm ?_
          refine w_cond (t := (!(r11 == r46))) rfl (fun hc => ?_) (fun hc => ?_)
          · replace h := h.1 ((is_not is_beq).t hc)
            refine w_seq ?_
            refine w_run [0] ?_
            refine t_done [(.agg [c0, c1]), (.int .i64 time2), (.int .i64 to3), (.int .i64 minutes4), (.bool false), (.agg [c0, c1]), (.agg [(.int .i64 r42), (.int .i64 r43)]), (.bool (!(((r38) == r6) && (((r39) == r7) && true)))), (.bool ((r42) != 0)), (.agg [(.int .i64 r12), (.int .i64 r13)]), (.agg [(.int .i64 r18), (.int .i64 r19)]), (.agg [(.int .i64 r24), (.int .i64 r25)]), (.agg [(.int .i64 r30), (.int .i64 r31)]), (.bool r11), (.int .i64 r17), (.int .i64 r23), (.int .i64 r29), (.bool (!(r11 == r46))), .undef, .undef, .undef, .undef, .undef, .undef, .undef, .undef, .undef, .undef, .undef, .undef] H47 (by kernel_rfl) ?_
            refine then_norm ?_
            refine w_ret ?_
            refine then_ret ?_
            exact body_ret (vs := [(.bool false)]) _ (by kernel_rfl) rfl h
          · replace h := h.2 ((is_not is_beq).f hc)
            refine w_skip ?_
            refine then_norm ?_
            refine w_seq ?_
            refine w_run [0, 0, 0, 0, 1, 0, 1, 0] ?_
            refine t_call false nFMinutes [(.agg [c0, c1]), (.int .i64 time2)] H47 (by kernel_rfl) h ?_
            clear h
            rintro _ H50 ⟨r49, rfl, h⟩
            refine t_call true nFReach [(.agg [c0, c1]), (.int .i64 time2), (.int .i64 (IntKind.wrap .i64 (r49 + 1))), (.int .i64 500001)] H50 (by kernel_rfl) h ?_
            clear h
            rintro _ H53 ⟨r52, rfl, h⟩
            refine t_done [(.agg [c0, c1]), (.int .i64 time2), (.int .i64 to3), (.int .i64 minutes4), (.bool false), (.agg [c0, c1]), (.agg [(.int .i64 r42), (.int .i64 r43)]), (.bool (!(((r38) == r6) && (((r39) == r7) && true)))), (.bool ((r42) != 0)), (.agg [(.int .i64 r12), (.int .i64 r13)]), (.agg [(.int .i64 r18), (.int .i64 r19)]), (.agg [(.int .i64 r24), (.int .i64 r25)]), (.agg [(.int .i64 r30), (.int .i64 r31)]), (.bool r11), (.int .i64 r17), (.int .i64 r23), (.int .i64 r29), (.bool (!(r11 == r46))), (.int .i64 r52), .undef, .undef, .undef, .undef, .undef, .undef, .undef, .undef, .undef, .undef, .undef] H53 (by kernel_rfl) ?_
            refine then_norm ?_
            refine w_seq ?_
            obtain ⟨R55, h, hK⟩ := h
            refine w_join (fun EI HI => ∃ (d56 : AV) (d57 : AV) (d58 : AV) (d59 : AV), EI = [(.agg [c0, c1]), (.int .i64 time2), (.int .i64 to3), (.int .i64 minutes4), d56, (.agg [c0, c1]), (.agg [(.int .i64 r42), (.int .i64 r43)]), (.bool (!(((r38) == r6) && (((r39) == r7) && true)))), (.bool ((r42) != 0)), (.agg [(.int .i64 r12), (.int .i64 r13)]), (.agg [(.int .i64 r18), (.int .i64 r19)]), (.agg [(.int .i64 r24), (.int .i64 r25)]), (.agg [(.int .i64 r30), (.int .i64 r31)]), (.bool r11), (.int .i64 r17), (.int .i64 r23), (.int .i64 r29), (.bool (!(r11 == r46))), (.int .i64 r52), d57, d58, d59, .undef, .undef, .undef, .undef, .undef, .undef, .undef, .undef] ∧ R55  HI) ?_ ?_
            · clear hK
              refine w_seq ?_
              refine w_run [0, 0] ?_
              refine t_done [(.agg [c0, c1]), (.int .i64 time2), (.int .i64 to3), (.int .i64 minutes4), (.bool false), (.agg [c0, c1]), (.agg [(.int .i64 r42), (.int .i64 r43)]), (.bool (!(((r38) == r6) && (((r39) == r7) && true)))), (.bool ((r42) != 0)), (.agg [(.int .i64 r12), (.int .i64 r13)]), (.agg [(.int .i64 r18), (.int .i64 r19)]), (.agg [(.int .i64 r24), (.int .i64 r25)]), (.agg [(.int .i64 r30), (.int .i64 r31)]), (.bool r11), (.int .i64 r17), (.int .i64 r23), (.int .i64 r29), (.bool (!(r11 == r46))), (.int .i64 r52), (.bool (decide (r52 < 0))), .undef, .undef, .undef, .undef, .undef, .undef, .undef, .undef, .undef, .undef] H53 (by kernel_rfl) ?_
              refine then_norm ?_
              refine w_cond (t := (decide (r52 < 0))) rfl (fun hc => ?_) (fun hc => ?_)
              · replace h := h.1 (is_dec.t hc)
                refine w_seq ?_
                refine w_run [0, 1, 0, 0, 0, 0, 0] ?_
                refine t_call false nFFault [(.int .i64 6), (.int .i64 (-21))] H53 (by kernel_rfl) h ?_
                clear h
                rintro _ H63 ⟨r61, r62, rfl, h⟩
                refine t_done [(.agg [c0, c1]), (.int .i64 time2), (.int .i64 to3), (.int .i64 minutes4), (.bool false), (.agg [c0, c1]), (.agg [(.int .i64 r42), (.int .i64 r43)]), (.bool (!(((r38) == r6) && (((r39) == r7) && true)))), (.bool ((r42) != 0)), (.agg [(.int .i64 r12), (.int .i64 r13)]), (.agg [(.int .i64 r18), (.int .i64 r19)]), (.agg [(.int .i64 r24), (.int .i64 r25)]), (.agg [(.int .i64 r30), (.int .i64 r31)]), (.bool r11), (.int .i64 r17), (.int .i64 r23), (.int .i64 r29), (.bool (!(r11 == r46))), (.int .i64 r52), (.bool (decide (r52 < 0))), (.bool ((!(((r18) == r61) && (((r19) == r62) && true))) || ((r17) != 0))), .undef, .undef, .undef, .undef, .undef, .undef, .undef, .undef, .undef] H63 (by kernel_rfl) ?_
                refine then_norm ?_
                refine w_cond (t := ((!(((r18) == r61) && (((r19) == r62) && true))) || ((r17) != 0))) rfl (fun hc => ?_) (fun hc => ?_)
                · replace h := h.1 ((is_or (is_not (is_and is_eq (is_and is_eq is_true))) is_ne).t hc)
                  refine w_seq ?_
                  refine w_run [0] ?_
                  refine t_done [(.agg [c0, c1]), (.int .i64 time2), (.int .i64 to3), (.int .i64 minutes4), (.bool false), (.agg [c0, c1]), (.agg [(.int .i64 r42), (.int .i64 r43)]), (.bool (!(((r38) == r6) && (((r39) == r7) && true)))), (.bool ((r42) != 0)), (.agg [(.int .i64 r12), (.int .i64 r13)]), (.agg [(.int .i64 r18), (.int .i64 r19)]), (.agg [(.int .i64 r24), (.int .i64 r25)]), (.agg [(.int .i64 r30), (.int .i64 r31)]), (.bool r11), (.int .i64 r17), (.int .i64 r23), (.int .i64 r29), (.bool (!(r11 == r46))), (.int .i64 r52), (.bool (decide (r52 < 0))), (.bool ((!(((r18) == r61) && (((r19) == r62) && true))) || ((r17) != 0))), .undef, .undef, .undef, .undef, .undef, .undef, .undef, .undef, .undef] H63 (by kernel_rfl) ?_
                  refine then_norm ?_
                  refine w_ret ?_
                  refine join_ret ?_
                  refine then_ret ?_
                  exact body_ret (vs := [(.bool false)]) _ (by kernel_rfl) rfl h
                · replace h := h.2 ((is_or (is_not (is_and is_eq (is_and is_eq is_true))) is_ne).f hc)
                  refine w_skip ?_
                  refine join_norm ⟨_, _, _, _, rfl, h⟩
              · replace h := h.2 (is_dec.f hc)
                refine w_seq ?_
                refine w_run [0, 0, 0, 0, 0, 0, 0, 0, 0] ?_
                refine t_done [(.agg [c0, c1]), (.int .i64 time2), (.int .i64 to3), (.int .i64 minutes4), (.bool false), (.agg [c0, c1]), (.agg [(.int .i64 r42), (.int .i64 r43)]), (.bool (!(((r38) == r6) && (((r39) == r7) && true)))), (.bool ((r42) != 0)), (.agg [(.int .i64 r12), (.int .i64 r13)]), (.agg [(.int .i64 r18), (.int .i64 r19)]), (.agg [(.int .i64 r24), (.int .i64 r25)]), (.agg [(.int .i64 r30), (.int .i64 r31)]), (.bool r11), (.int .i64 r17), (.int .i64 r23), (.int .i64 r29), (.bool (!(r11 == r46))), (.int .i64 r52), (.bool (decide (r52 < 0))), .undef, (.bool (((r18) != 0) || ((r17) != (IntKind.wrap .i64 (r52 - 1))))), .undef, .undef, .undef, .undef, .undef, .undef, .undef, .undef] H53 (by kernel_rfl) ?_
                refine then_norm ?_
                refine w_cond (t := (((r18) != 0) || ((r17) != (IntKind.wrap .i64 (r52 - 1))))) rfl (fun hc => ?_) (fun hc => ?_)
                · replace h := h.1 ((is_or is_ne is_ne).t hc)
                  refine w_seq ?_
                  refine w_run [0] ?_
                  refine t_done [(.agg [c0, c1]), (.int .i64 time2), (.int .i64 to3), (.int .i64 minutes4), (.bool false), (.agg [c0, c1]), (.agg [(.int .i64 r42), (.int .i64 r43)]), (.bool (!(((r38) == r6) && (((r39) == r7) && true)))), (.bool ((r42) != 0)), (.agg [(.int .i64 r12), (.int .i64 r13)]), (.agg [(.int .i64 r18), (.int .i64 r19)]), (.agg [(.int .i64 r24), (.int .i64 r25)]), (.agg [(.int .i64 r30), (.int .i64 r31)]), (.bool r11), (.int .i64 r17), (.int .i64 r23), (.int .i64 r29), (.bool (!(r11 == r46))), (.int .i64 r52), (.bool (decide (r52 < 0))), .undef, (.bool (((r18) != 0) || ((r17) != (IntKind.wrap .i64 (r52 - 1))))), .undef, .undef, .undef, .undef, .undef, .undef, .undef, .undef] H53 (by kernel_rfl) ?_
                  refine then_norm ?_
                  refine w_ret ?_
                  refine join_ret ?_
                  refine then_ret ?_
                  exact body_ret (vs := [(.bool false)]) _ (by kernel_rfl) rfl h
                · replace h := h.2 ((is_or is_ne is_ne).f hc)
                  refine w_skip ?_
                  refine join_norm ⟨_, _, _, _, rfl, h⟩
            · clear h
              rintro EI H60 ⟨d56, d57, d58, d59, rfl, hJ⟩
              have h := hK H60 hJ
              clear hJ hK
              refine then_norm ?_
              refine w_seq ?_
              refine w_run [0, 0, 1, 1, 1] ?_
              refine t_call true nLtimeFault [(.agg [(.int .i64 r42), (.int .i64 r43)]), (.int .i64 to3)] H60 (by kernel_rfl) h ?_
              clear h
              rintro _ H67 ⟨r65, r66, rfl, h⟩
              obtain ⟨H69, hb⟩ : ∃ H', Dead1 H67 1 H' := ⟨_, ⟨rfl⟩⟩
              replace h := h H69 hb
              refine t_tomb true 1 (.agg [(.int .i64 0), (.int .i64 0)]) [(.int .i64 0), (.int .i64 0)] H69 H67 (by kernel_rfl) rfl hb ?_
              refine t_upd true 2 0 [(.int .i64 0), (.int .i64 0)] (.agg [(.int .i64 r65), (.int .i64 r66)]) [(.int .i64 r65), (.int .i64 r66)] [(.int .i64 r65), (.int .i64 r66)] H69 (by kernel_rfl) rfl (all_c rfl (all_c rfl all_n)) ⟨rfl, Nat.le_of_ble_eq_true (by kernel_rfl), rfl⟩ ?_
              refine t_done [(.agg [c0, c1]), (.int .i64 time2), (.int .i64 to3), (.int .i64 minutes4), d56, (.agg [c0, c1]), (.agg [(.int .i64 r42), (.int .i64 r43)]), (.bool (!(((r38) == r6) && (((r39) == r7) && true)))), (.bool ((r42) != 0)), (.agg [(.int .i64 r12), (.int .i64 r13)]), (.agg [(.int .i64 r18), (.int .i64 r19)]), (.agg [(.int .i64 r24), (.int .i64 r25)]), (.agg [(.int .i64 r30), (.int .i64 r31)]), (.bool r11), (.int .i64 r17), (.int .i64 r23), (.int .i64 r29), (.bool (!(r11 == r46))), (.int .i64 r52), d57, d58, d59, (.agg [(.int .i64 r65), (.int .i64 r66)]), .undef, .undef, .undef, .undef, .undef, .undef, .undef] H69 (by kernel_rfl) ?_
              refine then_norm ?_
              refine w_seq ?_
              obtain ⟨R70, h, hK⟩ := h
              refine w_join (fun EI HI => ∃ (x71 : Int) (x72 : Int) (d73 : AV), EI = [(.agg [c0, c1]), (.int .i64 time2), (.int .i64 to3), (.int .i64 minutes4), d56, (.agg [c0, c1]), (.agg [(.int .i64 r42), (.int .i64 r43)]), (.bool (!(((r38) == r6) && (((r39) == r7) && true)))), (.bool ((r42) != 0)), (.agg [(.int .i64 r12), (.int .i64 r13)]), (.agg [(.int .i64 r18), (.int .i64 r19)]), (.agg [(.int .i64 r24), (.int .i64 r25)]), (.agg [(.int .i64 r30), (.int .i64 r31)]), (.bool r11), (.int .i64 r17), (.int .i64 r23), (.int .i64 r29), (.bool (!(r11 == r46))), (.int .i64 r52), d57, d58, d59, (.agg [(.int .i64 x71), (.int .i64 x72)]), d73, .undef, .undef, .undef, .undef, .undef, .undef] ∧ R70 x71 x72 HI) ?_ ?_
              · clear hK
                refine w_seq ?_
                refine w_run [0, 0, 0, 0, 0, 0, 0, 0, 0, 0, 0, 0, 0, 0] ?_
                refine t_done [(.agg [c0, c1]), (.int .i64 time2), (.int .i64 to3), (.int .i64 minutes4), d56, (.agg [c0, c1]), (.agg [(.int .i64 r42), (.int .i64 r43)]), (.bool (!(((r38) == r6) && (((r39) == r7) && true)))), (.bool ((r42) != 0)), (.agg [(.int .i64 r12), (.int .i64 r13)]), (.agg [(.int .i64 r18), (.int .i64 r19)]), (.agg [(.int .i64 r24), (.int .i64 r25)]), (.agg [(.int .i64 r30), (.int .i64 r31)]), (.bool r11), (.int .i64 r17), (.int .i64 r23), (.int .i64 r29), (.bool (!(r11 == r46))), (.int .i64 r52), d57, d58, d59, (.agg [(.int .i64 r65), (.int .i64 r66)]), (.bool (((r65) == 0) && ((decide (to3 < time2)) || (decide ((IntKind.wrap .i64 (to3 - time2)) > 500000))))), .undef, .undef, .undef, .undef, .undef, .undef] H69 (by kernel_rfl) ?_
                refine then_norm ?_
                refine w_cond (t := (((r65) == 0) && ((decide (to3 < time2)) || (decide ((IntKind.wrap .i64 (to3 - time2)) > 500000))))) rfl (fun hc => ?_) (fun hc => ?_)
                · replace h := h.1 ((is_and is_eq (is_or is_dec is_dec)).t hc)
                  refine w_run [1, 1] ?_
                  refine t_call true nFFault [(.int .i64 3), (.int .i64 (-21))] H69 (by kernel_rfl) h ?_
                  clear h
                  rintro _ H77 ⟨r75, r76, rfl, h⟩
                  refine t_upd true 2 0 [(.int .i64 r65), (.int .i64 r66)] (.agg [(.int .i64 r75), (.int .i64 r76)]) [(.int .i64 r75), (.int .i64 r76)] [(.int .i64 r75), (.int .i64 r76)] H77 (by kernel_rfl) rfl (all_c rfl (all_c rfl all_n)) ⟨rfl, Nat.le_of_ble_eq_true (by kernel_rfl), rfl⟩ ?_
                  refine t_done [(.agg [c0, c1]), (.int .i64 time2), (.int .i64 to3), (.int .i64 minutes4), d56, (.agg [c0, c1]), (.agg [(.int .i64 r42), (.int .i64 r43)]), (.bool (!(((r38) == r6) && (((r39) == r7) && true)))), (.bool ((r42) != 0)), (.agg [(.int .i64 r12), (.int .i64 r13)]), (.agg [(.int .i64 r18), (.int .i64 r19)]), (.agg [(.int .i64 r24), (.int .i64 r25)]), (.agg [(.int .i64 r30), (.int .i64 r31)]), (.bool r11), (.int .i64 r17), (.int .i64 r23), (.int .i64 r29), (.bool (!(r11 == r46))), (.int .i64 r52), d57, d58, d59, (.agg [(.int .i64 r75), (.int .i64 r76)]), (.bool (((r65) == 0) && ((decide (to3 < time2)) || (decide ((IntKind.wrap .i64 (to3 - time2)) > 500000))))), .undef, .undef, .undef, .undef, .undef, .undef] H77 (by kernel_rfl) ?_
                  refine join_norm ⟨_, _, _, rfl, h⟩
                · replace h := h.2 ((is_and is_eq (is_or is_dec is_dec)).f hc)
                  refine w_skip ?_
                  refine join_norm ⟨_, _, _, rfl, h⟩
              · clear h
                rintro EI H74 ⟨x71, x72, d73, rfl, hJ⟩
                have h := hK x71 x72 H74 hJ
                clear hJ hK
                refine then_norm ?_
                refine w_seq ?_
                obtain ⟨R79, h, hK⟩ := h
                refine w_join (fun EI HI => ∃ (d80 : AV) (d81 : AV) (d82 : AV) (d83 : AV), EI = [(.agg [c0, c1]), (.int .i64 time2), (.int .i64 to3), (.int .i64 minutes4), d80, (.agg [c0, c1]), (.agg [(.int .i64 r42), (.int .i64 r43)]), (.bool (!(((r38) == r6) && (((r39) == r7) && true)))), (.bool ((r42) != 0)), (.agg [(.int .i64 r12), (.int .i64 r13)]), (.agg [(.int .i64 r18), (.int .i64 r19)]), (.agg [(.int .i64 r24), (.int .i64 r25)]), (.agg [(.int .i64 r30), (.int .i64 r31)]), (.bool r11), (.int .i64 r17), (.int .i64 r23), (.int .i64 r29), (.bool (!(r11 == r46))), (.int .i64 r52), d57, d58, d59, (.agg [(.int .i64 x71), (.int .i64 x72)]), d73, d81, d82, d83, .undef, .undef, .undef] ∧ R79  HI) ?_ ?_
                · clear hK
                  refine w_seq ?_
                  refine w_run [0, 0, 0] ?_
                  refine t_done [(.agg [c0, c1]), (.int .i64 time2), (.int .i64 to3), (.int .i64 minutes4), d56, (.agg [c0, c1]), (.agg [(.int .i64 r42), (.int .i64 r43)]), (.bool (!(((r38) == r6) && (((r39) == r7) && true)))), (.bool ((r42) != 0)), (.agg [(.int .i64 r12), (.int .i64 r13)]), (.agg [(.int .i64 r18), (.int .i64 r19)]), (.agg [(.int .i64 r24), (.int .i64 r25)]), (.agg [(.int .i64 r30), (.int .i64 r31)]), (.bool r11), (.int .i64 r17), (.int .i64 r23), (.int .i64 r29), (.bool (!(r11 == r46))), (.int .i64 r52), d57, d58, d59, (.agg [(.int .i64 x71), (.int .i64 x72)]), d73, (.bool ((x71) != 0)), .undef, .undef, .undef, .undef, .undef] H74 (by kernel_rfl) ?_
                  refine then_norm ?_
                  refine w_cond (t := ((x71) != 0)) rfl (fun hc => ?_) (fun hc => ?_)
                  · replace h := h.1 (is_ne.t hc)
                    refine w_seq ?_
                    refine w_run [0, 0, 0, 0, 0, 0, 0] ?_
                    refine t_done [(.agg [c0, c1]), (.int .i64 time2), (.int .i64 to3), (.int .i64 minutes4), d56, (.agg [c0, c1]), (.agg [(.int .i64 r42), (.int .i64 r43)]), (.bool (!(((r38) == r6) && (((r39) == r7) && true)))), (.bool ((r42) != 0)), (.agg [(.int .i64 r12), (.int .i64 r13)]), (.agg [(.int .i64 r18), (.int .i64 r19)]), (.agg [(.int .i64 r24), (.int .i64 r25)]), (.agg [(.int .i64 r30), (.int .i64 r31)]), (.bool r11), (.int .i64 r17), (.int .i64 r23), (.int .i64 r29), (.bool (!(r11 == r46))), (.int .i64 r52), d57, d58, d59, (.agg [(.int .i64 x71), (.int .i64 x72)]), d73, (.bool ((x71) != 0)), (.bool ((!(((r24) == x71) && (((r25) == x72) && true))) || ((r23) != 0))), .undef, .undef, .undef, .undef] H74 (by kernel_rfl) ?_
                    refine then_norm ?_
                    refine w_cond (t := ((!(((r24) == x71) && (((r25) == x72) && true))) || ((r23) != 0))) rfl (fun hc => ?_) (fun hc => ?_)
                    · replace h := h.1 ((is_or (is_not (is_and is_eq (is_and is_eq is_true))) is_ne).t hc)
                      refine w_seq ?_
                      refine w_run [0] ?_
                      refine t_done [(.agg [c0, c1]), (.int .i64 time2), (.int .i64 to3), (.int .i64 minutes4), (.bool false), (.agg [c0, c1]), (.agg [(.int .i64 r42), (.int .i64 r43)]), (.bool (!(((r38) == r6) && (((r39) == r7) && true)))), (.bool ((r42) != 0)), (.agg [(.int .i64 r12), (.int .i64 r13)]), (.agg [(.int .i64 r18), (.int .i64 r19)]), (.agg [(.int .i64 r24), (.int .i64 r25)]), (.agg [(.int .i64 r30), (.int .i64 r31)]), (.bool r11), (.int .i64 r17), (.int .i64 r23), (.int .i64 r29), (.bool (!(r11 == r46))), (.int .i64 r52), d57, d58, d59, (.agg [(.int .i64 x71), (.int .i64 x72)]), d73, (.bool ((x71) != 0)), (.bool ((!(((r24) == x71) && (((r25) == x72) && true))) || ((r23) != 0))), .undef, .undef, .undef, .undef] H74 (by kernel_rfl) ?_
                      refine then_norm ?_
                      refine w_ret ?_
                      refine join_ret ?_
                      refine then_ret ?_
                      exact body_ret (vs := [(.bool false)]) _ (by kernel_rfl) rfl h
                    · replace h := h.2 ((is_or (is_not (is_and is_eq (is_and is_eq is_true))) is_ne).f hc)
                      refine w_skip ?_
                      refine join_norm ⟨_, _, _, _, rfl, h⟩
                  · replace h := h.2 (is_ne.f hc)
                    refine w_seq ?_
                    refine w_run [0, 0, 0, 0, 0, 0, 0, 3, 0, 0, 3, 2, 2, 0] ?_
                    refine t_gd ((r24) != 0) false (by kernel_rfl) (fun hc => ?_) (fun hc => ?_)
                    · replace h := h.2 (is_ne.f hc)
                      refine t_call false nFMinutes [(.agg [c0, c1]), (.int .i64 to3)] H74 (by kernel_rfl) h ?_
                      clear h
                      rintro _ H86 ⟨r85, rfl, h⟩
                      refine t_gd false false (by kernel_rfl) (fun _ => ?_) (fun hn => by cases hn)
                      refine t_call true nFMinutes [(.agg [c0, c1]), (.int .i64 time2)] H86 (by kernel_rfl) h ?_
                      clear h
                      rintro _ H89 ⟨r88, rfl, h⟩
                      refine t_gd false false (by kernel_rfl) (fun _ => ?_) (fun hn => by cases hn)
                      refine t_gd false false (by kernel_rfl) (fun _ => ?_) (fun hn => by cases hn)
                      refine t_done [(.agg [c0, c1]), (.int .i64 time2), (.int .i64 to3), (.int .i64 minutes4), d56, (.agg [c0, c1]), (.agg [(.int .i64 r42), (.int .i64 r43)]), (.bool (!(((r38) == r6) && (((r39) == r7) && true)))), (.bool ((r42) != 0)), (.agg [(.int .i64 r12), (.int .i64 r13)]), (.agg [(.int .i64 r18), (.int .i64 r19)]), (.agg [(.int .i64 r24), (.int .i64 r25)]), (.agg [(.int .i64 r30), (.int .i64 r31)]), (.bool r11), (.int .i64 r17), (.int .i64 r23), (.int .i64 r29), (.bool (!(r11 == r46))), (.int .i64 r52), d57, d58, d59, (.agg [(.int .i64 x71), (.int .i64 x72)]), d73, (.bool ((x71) != 0)), .undef, (.bool ((r23) != (IntKind.wrap .i64 (r85 - r88)))), .undef, .undef, .undef] H89 (by kernel_rfl) ?_
                      refine then_norm ?_
                      refine w_cond (t := ((r23) != (IntKind.wrap .i64 (r85 - r88)))) rfl (fun hc => ?_) (fun hc => ?_)
                      · replace h := h.1 (is_ne.t hc)
                        refine w_seq ?_
                        refine w_run [0] ?_
                        refine t_done [(.agg [c0, c1]), (.int .i64 time2), (.int .i64 to3), (.int .i64 minutes4), (.bool false), (.agg [c0, c1]), (.agg [(.int .i64 r42), (.int .i64 r43)]), (.bool (!(((r38) == r6) && (((r39) == r7) && true)))), (.bool ((r42) != 0)), (.agg [(.int .i64 r12), (.int .i64 r13)]), (.agg [(.int .i64 r18), (.int .i64 r19)]), (.agg [(.int .i64 r24), (.int .i64 r25)]), (.agg [(.int .i64 r30), (.int .i64 r31)]), (.bool r11), (.int .i64 r17), (.int .i64 r23), (.int .i64 r29), (.bool (!(r11 == r46))), (.int .i64 r52), d57, d58, d59, (.agg [(.int .i64 x71), (.int .i64 x72)]), d73, (.bool ((x71) != 0)), .undef, (.bool ((r23) != (IntKind.wrap .i64 (r85 - r88)))), .undef, .undef, .undef] H89 (by kernel_rfl) ?_
                        refine then_norm ?_
                        refine w_ret ?_
                        refine join_ret ?_
                        refine then_ret ?_
                        exact body_ret (vs := [(.bool false)]) _ (by kernel_rfl) rfl h
                      · replace h := h.2 (is_ne.f hc)
                        refine w_skip ?_
                        refine join_norm ⟨_, _, _, _, rfl, h⟩
                    · replace h := h.1 (is_ne.t hc)
                      refine t_gd true false (by kernel_rfl) (fun hn => by cases hn) (fun _ => ?_)
                      refine t_gd true false (by kernel_rfl) (fun hn => by cases hn) (fun _ => ?_)
                      refine t_gd true false (by kernel_rfl) (fun hn => by cases hn) (fun _ => ?_)
                      refine t_done [(.agg [c0, c1]), (.int .i64 time2), (.int .i64 to3), (.int .i64 minutes4), d56, (.agg [c0, c1]), (.agg [(.int .i64 r42), (.int .i64 r43)]), (.bool (!(((r38) == r6) && (((r39) == r7) && true)))), (.bool ((r42) != 0)), (.agg [(.int .i64 r12), (.int .i64 r13)]), (.agg [(.int .i64 r18), (.int .i64 r19)]), (.agg [(.int .i64 r24), (.int .i64 r25)]), (.agg [(.int .i64 r30), (.int .i64 r31)]), (.bool r11), (.int .i64 r17), (.int .i64 r23), (.int .i64 r29), (.bool (!(r11 == r46))), (.int .i64 r52), d57, d58, d59, (.agg [(.int .i64 x71), (.int .i64 x72)]), d73, (.bool ((x71) != 0)), .undef, (.bool true), .undef, .undef, .undef] H74 (by kernel_rfl) ?_
                      refine then_norm ?_
                      refine w_cond (t := true) rfl (fun _ => ?_) (fun hc => by cases hc)
                      refine w_seq ?_
                      refine w_run [0] ?_
                      refine t_done [(.agg [c0, c1]), (.int .i64 time2), (.int .i64 to3), (.int .i64 minutes4), (.bool false), (.agg [c0, c1]), (.agg [(.int .i64 r42), (.int .i64 r43)]), (.bool (!(((r38) == r6) && (((r39) == r7) && true)))), (.bool ((r42) != 0)), (.agg [(.int .i64 r12), (.int .i64 r13)]), (.agg [(.int .i64 r18), (.int .i64 r19)]), (.agg [(.int .i64 r24), (.int .i64 r25)]), (.agg [(.int .i64 r30), (.int .i64 r31)]), (.bool r11), (.int .i64 r17), (.int .i64 r23), (.int .i64 r29), (.bool (!(r11 == r46))), (.int .i64 r52), d57, d58, d59, (.agg [(.int .i64 x71), (.int .i64 x72)]), d73, (.bool ((x71) != 0)), .undef, (.bool true), .undef, .undef, .undef] H74 (by kernel_rfl) ?_
                      refine then_norm ?_
                      refine w_ret ?_
                      refine join_ret ?_
                      refine then_ret ?_
                      exact body_ret (vs := [(.bool false)]) _ (by kernel_rfl) rfl h
                · clear h
                  rintro EI H84 ⟨d80, d81, d82, d83, rfl, hJ⟩
                  have h := hK H84 hJ
                  clear hJ hK
                  refine then_norm ?_
                  refine w_seq ?_
                  refine w_seq ?_
                  refine w_run [0, 0, 0, 0, 0, 0] ?_
                  refine t_done [(.agg [c0, c1]), (.int .i64 time2), (.int .i64 to3), (.int .i64 minutes4), d80, (.agg [c0, c1]), (.agg [(.int .i64 r42), (.int .i64 r43)]), (.bool (!(((r38) == r6) && (((r39) == r7) && true)))), (.bool ((r42) != 0)), (.agg [(.int .i64 r12), (.int .i64 r13)]), (.agg [(.int .i64 r18), (.int .i64 r19)]), (.agg [(.int .i64 r24), (.int .i64 r25)]), (.agg [(.int .i64 r30), (.int .i64 r31)]), (.bool r11), (.int .i64 r17), (.int .i64 r23), (.int .i64 r29), (.bool (!(r11 == r46))), (.int .i64 r52), d57, d58, d59, (.agg [(.int .i64 x71), (.int .i64 x72)]), d73, d81, d82, d83, (.bool ((decide (minutes4 < 0)) || (decide (minutes4 > 500000)))), .undef, .undef] H84 (by kernel_rfl) ?_
                  refine then_norm ?_
                  refine w_cond (t := ((decide (minutes4 < 0)) || (decide (minutes4 > 500000)))) rfl (fun hc => ?_) (fun hc => ?_)
                  · replace h := h.1 ((is_or is_dec is_dec).t hc)
                    refine w_seq ?_
                    refine w_run [0, 1, 0, 0, 0, 0, 0, 0] ?_
                    refine t_call false nFFault [(.int .i64 3), (.int .i64 (-21))] H84 (by kernel_rfl) h ?_
                    clear h
                    rintro _ H93 ⟨r91, r92, rfl, h⟩
                    refine t_done [(.agg [c0, c1]), (.int .i64 time2), (.int .i64 to3), (.int .i64 minutes4), (.bool ((((r30) == r91) && (((r31) == r92) && true)) && ((r29) == 0))), (.agg [c0, c1]), (.agg [(.int .i64 r42), (.int .i64 r43)]), (.bool (!(((r38) == r6) && (((r39) == r7) && true)))), (.bool ((r42) != 0)), (.agg [(.int .i64 r12), (.int .i64 r13)]), (.agg [(.int .i64 r18), (.int .i64 r19)]), (.agg [(.int .i64 r24), (.int .i64 r25)]), (.agg [(.int .i64 r30), (.int .i64 r31)]), (.bool r11), (.int .i64 r17), (.int .i64 r23), (.int .i64 r29), (.bool (!(r11 == r46))), (.int .i64 r52), d57, d58, d59, (.agg [(.int .i64 x71), (.int .i64 x72)]), d73, d81, d82, d83, (.bool ((decide (minutes4 < 0)) || (decide (minutes4 > 500000)))), .undef, .undef] H93 (by kernel_rfl) ?_
                    refine then_norm ?_
                    refine w_ret ?_
                    refine then_ret ?_
                    exact body_ret (vs := [(.bool ((((r30) == r91) && (((r31) == r92) && true)) && ((r29) == 0)))]) _ (by kernel_rfl) rfl h
                  · replace h := h.2 ((is_or is_dec is_dec).f hc)
                    refine w_skip ?_
                    refine then_norm ?_
                    refine w_seq ?_
                    refine w_run [0, 0, 0, 0, 1, 0, 0, 1, 0] ?_
                    refine t_call false nFMinutes [(.agg [c0, c1]), (.int .i64 time2)] H84 (by kernel_rfl) h ?_
                    clear h
                    rintro _ H96 ⟨r95, rfl, h⟩
                    refine t_call true nFReach [(.agg [c0, c1]), (.int .i64 time2), (.int .i64 (IntKind.wrap .i64 (r95 + minutes4))), (.int .i64 500000)] H96 (by kernel_rfl) h ?_
                    clear h
                    rintro _ H99 ⟨r98, rfl, h⟩
                    refine t_done [(.agg [c0, c1]), (.int .i64 time2), (.int .i64 to3), (.int .i64 minutes4), d80, (.agg [c0, c1]), (.agg [(.int .i64 r42), (.int .i64 r43)]), (.bool (!(((r38) == r6) && (((r39) == r7) && true)))), (.bool ((r42) != 0)), (.agg [(.int .i64 r12), (.int .i64 r13)]), (.agg [(.int .i64 r18), (.int .i64 r19)]), (.agg [(.int .i64 r24), (.int .i64 r25)]), (.agg [(.int .i64 r30), (.int .i64 r31)]), (.bool r11), (.int .i64 r17), (.int .i64 r23), (.int .i64 r29), (.bool (!(r11 == r46))), (.int .i64 r52), d57, d58, d59, (.agg [(.int .i64 x71), (.int .i64 x72)]), d73, d81, d82, d83, (.bool ((decide (minutes4 < 0)) || (decide (minutes4 > 500000)))), (.int .i64 r98), .undef] H99 (by kernel_rfl) ?_
                    refine then_norm ?_
                    refine w_seq ?_
                    refine w_seq ?_
                    refine w_run [0, 0] ?_
                    refine t_done [(.agg [c0, c1]), (.int .i64 time2), (.int .i64 to3), (.int .i64 minutes4), d80, (.agg [c0, c1]), (.agg [(.int .i64 r42), (.int .i64 r43)]), (.bool (!(((r38) == r6) && (((r39) == r7) && true)))), (.bool ((r42) != 0)), (.agg [(.int .i64 r12), (.int .i64 r13)]), (.agg [(.int .i64 r18), (.int .i64 r19)]), (.agg [(.int .i64 r24), (.int .i64 r25)]), (.agg [(.int .i64 r30), (.int .i64 r31)]), (.bool r11), (.int .i64 r17), (.int .i64 r23), (.int .i64 r29), (.bool (!(r11 == r46))), (.int .i64 r52), d57, d58, d59, (.agg [(.int .i64 x71), (.int .i64 x72)]), d73, d81, d82, d83, (.bool ((decide (minutes4 < 0)) || (decide (minutes4 > 500000)))), (.int .i64 r98), (.bool (decide (r98 < 0)))] H99 (by kernel_rfl) ?_
                    refine then_norm ?_
                    refine w_cond (t := (decide (r98 < 0))) rfl (fun hc => ?_) (fun hc => ?_)
                    · replace h := h.1 (is_dec.t hc)
                      refine w_seq ?_
                      refine w_run [0, 1, 0, 0, 0, 0, 0, 0] ?_
                      refine t_call false nFFault [(.int .i64 6), (.int .i64 (-22))] H99 (by kernel_rfl) h ?_
                      clear h
                      rintro _ H103 ⟨r101, r102, rfl, h⟩
                      refine t_done [(.agg [c0, c1]), (.int .i64 time2), (.int .i64 to3), (.int .i64 minutes4), (.bool ((((r30) == r101) && (((r31) == r102) && true)) && ((r29) == 0))), (.agg [c0, c1]), (.agg [(.int .i64 r42), (.int .i64 r43)]), (.bool (!(((r38) == r6) && (((r39) == r7) && true)))), (.bool ((r42) != 0)), (.agg [(.int .i64 r12), (.int .i64 r13)]), (.agg [(.int .i64 r18), (.int .i64 r19)]), (.agg [(.int .i64 r24), (.int .i64 r25)]), (.agg [(.int .i64 r30), (.int .i64 r31)]), (.bool r11), (.int .i64 r17), (.int .i64 r23), (.int .i64 r29), (.bool (!(r11 == r46))), (.int .i64 r52), d57, d58, d59, (.agg [(.int .i64 x71), (.int .i64 x72)]), d73, d81, d82, d83, (.bool ((decide (minutes4 < 0)) || (decide (minutes4 > 500000)))), (.int .i64 r98), (.bool (decide (r98 < 0)))] H103 (by kernel_rfl) ?_
                      refine then_norm ?_
                      refine w_ret ?_
                      refine then_ret ?_
                      exact body_ret (vs := [(.bool ((((r30) == r101) && (((r31) == r102) && true)) && ((r29) == 0)))]) _ (by kernel_rfl) rfl h
                    · replace h := h.2 (is_dec.f hc)
                      refine w_skip ?_
                      refine then_norm ?_
                      refine w_seq ?_
                      refine w_run [0, 0, 0, 0, 0, 0, 0, 0, 0] ?_
                      refine t_done [(.agg [c0, c1]), (.int .i64 time2), (.int .i64 to3), (.int .i64 minutes4), (.bool (((r30) == 0) && ((r29) == r98))), (.agg [c0, c1]), (.agg [(.int .i64 r42), (.int .i64 r43)]), (.bool (!(((r38) == r6) && (((r39) == r7) && true)))), (.bool ((r42) != 0)), (.agg [(.int .i64 r12), (.int .i64 r13)]), (.agg [(.int .i64 r18), (.int .i64 r19)]), (.agg [(.int .i64 r24), (.int .i64 r25)]), (.agg [(.int .i64 r30), (.int .i64 r31)]), (.bool r11), (.int .i64 r17), (.int .i64 r23), (.int .i64 r29), (.bool (!(r11 == r46))), (.int .i64 r52), d57, d58, d59, (.agg [(.int .i64 x71), (.int .i64 x72)]), d73, d81, d82, d83, (.bool ((decide (minutes4 < 0)) || (decide (minutes4 > 500000)))), (.int .i64 r98), (.bool (decide (r98 < 0)))] H99 (by kernel_rfl) ?_
                      refine then_norm ?_
                      refine w_ret ?_
                      exact body_ret (vs := [(.bool (((r30) == 0) && ((r29) == r98)))]) _ (by kernel_rfl) rfl h
        · replace h := h.1 (is_ne.t hc)
          refine t_gd true false (by kernel_rfl) (fun hn => by cases hn) (fun _ => ?_)
          refine t_done [(.agg [c0, c1]), (.int .i64 time2), (.int .i64 to3), (.int .i64 minutes4), (.bool false), (.agg [c0, c1]), (.agg [(.int .i64 r42), (.int .i64 r43)]), (.bool (!(((r38) == r6) && (((r39) == r7) && true)))), (.bool ((r42) != 0)), (.agg [(.int .i64 r12), (.int .i64 r13)]), (.agg [(.int .i64 r18), (.int .i64 r19)]), (.agg [(.int .i64 r24), (.int .i64 r25)]), (.agg [(.int .i64 r30), (.int .i64 r31)]), (.bool r11), (.int .i64 r17), (.int .i64 r23), (.int .i64 r29), (.bool true), .undef, .undef, .undef, .undef, .undef, .undef, .undef, .undef, .undef, .undef, .undef, .undef] H44 (by kernel_rfl) ?_
          refine then_norm ?_
          refine w_cond (t := true) rfl (fun _ => ?_) (fun hc => by cases hc)
          refine w_seq ?_
          refine w_run [0] ?_
          refine t_done [(.agg [c0, c1]), (.int .i64 time2), (.int .i64 to3), (.int .i64 minutes4), (.bool false), (.agg [c0, c1]), (.agg [(.int .i64 r42), (.int .i64 r43)]), (.bool (!(((r38) == r6) && (((r39) == r7) && true)))), (.bool ((r42) != 0)), (.agg [(.int .i64 r12), (.int .i64 r13)]), (.agg [(.int .i64 r18), (.int .i64 r19)]), (.agg [(.int .i64 r24), (.int .i64 r25)]), (.agg [(.int .i64 r30), (.int .i64 r31)]), (.bool r11), (.int .i64 r17), (.int .i64 r23), (.int .i64 r29), (.bool true), .undef, .undef, .undef, .undef, .undef, .undef, .undef, .undef, .undef, .undef, .undef, .undef] H44 (by kernel_rfl) ?_
          refine then_norm ?_
          refine w_ret ?_
          refine then_ret ?_
          exact body_ret (vs := [(.bool false)]) _ (by kernel_rfl) rfl h
  · replace h := h.1 ((is_not is_raw).t hc)
    refine t_gd true false (by kernel_rfl) (fun hn => by cases hn) (fun _ => ?_)
    refine t_done [(.agg [c0, c1]), (.int .i64 time2), (.int .i64 to3), (.int .i64 minutes4), (.bool false), (.agg [c0, c1]), (.agg [(.int .i64 r6), (.int .i64 r7)]), (.bool true), .undef, (.agg [(.int .i64 r12), (.int .i64 r13)]), (.agg [(.int .i64 r18), (.int .i64 r19)]), (.agg [(.int .i64 r24), (.int .i64 r25)]), (.agg [(.int .i64 r30), (.int .i64 r31)]), (.bool r11), (.int .i64 r17), (.int .i64 r23), (.int .i64 r29), .undef, .undef, .undef, .undef, .undef, .undef, .undef, .undef, .undef, .undef, .undef, .undef, .undef] H36 (by kernel_rfl) ?_
    refine then_norm ?_
    refine w_cond (t := true) rfl (fun _ => ?_) (fun hc => by cases hc)
    refine w_seq ?_
    refine w_run [0] ?_
    refine t_done [(.agg [c0, c1]), (.int .i64 time2), (.int .i64 to3), (.int .i64 minutes4), (.bool false), (.agg [c0, c1]), (.agg [(.int .i64 r6), (.int .i64 r7)]), (.bool true), .undef, (.agg [(.int .i64 r12), (.int .i64 r13)]), (.agg [(.int .i64 r18), (.int .i64 r19)]), (.agg [(.int .i64 r24), (.int .i64 r25)]), (.agg [(.int .i64 r30), (.int .i64 r31)]), (.bool r11), (.int .i64 r17), (.int .i64 r23), (.int .i64 r29), .undef, .undef, .undef, .undef, .undef, .undef, .undef, .undef, .undef, .undef, .undef, .undef, .undef] H36 (by kernel_rfl) ?_
    refine then_norm ?_
    refine w_ret ?_
    refine then_ret ?_
    exact body_ret (vs := [(.bool false)]) _ (by kernel_rfl) rfl h

-- LCalendarWorkedIsAdditive
def rf_LCalendarWorkedIsAdditive (ncalendar_Worked nLcalendarExample : Nat) : RFunc := ⟨4, 14, [.var 4],
 ((.seq (.ops [⟨.tomb 1 (.var 0), none, (some 5), true⟩, ⟨.move (.k (.bool false)), none, (some 4), true⟩])
 ((.seq (.ops [⟨.field 0 (some 2) (.var 5), none, none, true⟩, ⟨.move (.var 1), none, none, true⟩, ⟨.move (.var 2), none, none, true⟩, ⟨.callS ncalendar_Worked [(.loc 0), (.loc 1), (.loc 2)], none, none, true⟩, ⟨.move (.loc 3), none, none, true⟩, ⟨.extract (.loc 4) 0, none, none, true⟩, ⟨.extract (.loc 4) 1, none, none, true⟩, ⟨.tomb 1 (.k (.agg [.int .i64 0, .int .i64 0])), none, (some 7), true⟩, ⟨.move (.loc 5), none, (some 12), true⟩, ⟨.upd 2 0 (.loc 7) (.loc 6), none, (some 7), true⟩])
 ((.seq (.ops [⟨.field 0 (some 2) (.var 5), none, none, true⟩, ⟨.move (.var 2), none, none, true⟩, ⟨.move (.var 3), none, none, true⟩, ⟨.callS ncalendar_Worked [(.loc 0), (.loc 1), (.loc 2)], none, none, true⟩, ⟨.move (.loc 3), none, none, true⟩, ⟨.extract (.loc 4) 0, none, none, true⟩, ⟨.extract (.loc 4) 1, none, none, true⟩, ⟨.tomb 1 (.k (.agg [.int .i64 0, .int .i64 0])), none, (some 8), true⟩, ⟨.move (.loc 5), none, (some 13), true⟩, ⟨.upd 2 0 (.loc 7) (.loc 6), none, (some 8), true⟩])
 ((.seq (.ops [⟨.field 0 (some 2) (.var 5), none, none, true⟩, ⟨.move (.var 1), none, none, true⟩, ⟨.move (.var 3), none, none, true⟩, ⟨.callS ncalendar_Worked [(.loc 0), (.loc 1), (.loc 2)], none, none, true⟩, ⟨.move (.loc 3), none, none, true⟩, ⟨.extract (.loc 4) 0, none, none, true⟩, ⟨.extract (.loc 4) 1, none, none, true⟩, ⟨.tomb 1 (.k (.agg [.int .i64 0, .int .i64 0])), none, (some 9), true⟩, ⟨.move (.loc 5), none, (some 11), true⟩, ⟨.upd 2 0 (.loc 7) (.loc 6), none, (some 9), true⟩])
 ((.seq ((.seq (.ops [⟨.callS nLcalendarExample [], none, none, true⟩, ⟨.un .not (.loc 0), none, (some 6), true⟩])
 (.cond (.var 6) ((.seq (.ops [⟨.move (.k (.bool false)), none, (some 4), true⟩])
 (.ret))) (.skip))))
 ((.seq ((.seq (.ops [⟨.field 0 none (.var 7), none, none, true⟩, ⟨.field 0 none (.var 7), none, none, true⟩, ⟨.bin .neq .no (.loc 1) (.k (.int .i64 0)), none, none, true⟩, ⟨.move (.loc 2), none, none, true⟩, ⟨.field 0 none (.var 8), none, none, true⟩, ⟨.field 0 none (.var 8), none, none, true⟩, ⟨.bin .neq .no (.loc 5) (.k (.int .i64 0)), none, none, true⟩, ⟨.pick (.loc 3) (.k (.bool true)) (.loc 6), none, none, true⟩, ⟨.move (.loc 7), none, none, true⟩, ⟨.field 0 none (.var 9), none, none, true⟩, ⟨.field 0 none (.var 9), none, none, true⟩, ⟨.bin .neq .no (.loc 10) (.k (.int .i64 0)), none, none, true⟩, ⟨.pick (.loc 8) (.k (.bool true)) (.loc 11), none, (some 10), true⟩])
 (.cond (.var 10) ((.seq (.ops [⟨.move (.k (.bool true)), none, (some 4), true⟩])
 (.ret))) (.skip))))
 ((.seq (.ops [⟨.move (.var 11), none, none, true⟩, ⟨.move (.var 12), none, none, true⟩, ⟨.move (.var 13), none, none, true⟩, ⟨.bin .add .no (.loc 1) (.loc 2), none, none, true⟩, ⟨.bin .eql .no (.loc 0) (.loc 3), none, none, true⟩, ⟨.move (.loc 4), none, none, true⟩, ⟨.move (.var 11), none, none, true⟩, ⟨.bin .geq .no (.loc 6) (.k (.int .i64 0)), none, none, true⟩, ⟨.pick (.loc 5) (.loc 7) (.k (.bool false)), none, none, true⟩, ⟨.move (.loc 8), none, none, true⟩, ⟨.move (.var 11), none, none, true⟩, ⟨.move (.var 3), none, none, true⟩, ⟨.move (.var 1), none, none, true⟩, ⟨.bin .sub .no (.loc 11) (.loc 12), none, none, true⟩, ⟨.bin .leq .no (.loc 10) (.loc 13), none, none, true⟩, ⟨.pick (.loc 9) (.loc 14) (.k (.bool false)), none, none, true⟩, ⟨.move (.loc 15), none, (some 4), true⟩])
 (.ret)))))))))))))))⟩
theorem v_LCalendarWorkedIsAdditive {F : Nat → Option RFunc} {me ncalendar_Worked nLcalendarExample : Nat} (hF : F me = some (rf_LCalendarWorkedIsAdditive ncalendar_Worked nLcalendarExample)) {fl : Nat} {H : Heap} {Q : AV → Heap → Prop} (c0 : AV) (c1 : AV) (from2 : Int) (mid3 : Int) (to4 : Int)
  (h : ∀ (H5 : Heap), Dead1 H 1 H5 → Ret F fl ncalendar_Worked [(.agg [c0, c1]), (.int .i64 from2), (.int .i64 mid3)] H5 (fun v10 H9 => ∃ (r6 : Int) (r7 : Int) (r8 : Int), v10 = (.tuple [(.int .i64 r6), (.agg [(.int .i64 r7), (.int .i64 r8)])]) ∧ ∀ (H11 : Heap), Dead1 H9 1 H11 → Ret F fl ncalendar_Worked [(.agg [c0, c1]), (.int .i64 mid3), (.int .i64 to4)] H11 (fun v16 H15 => ∃ (r12 : Int) (r13 : Int) (r14 : Int), v16 = (.tuple [(.int .i64 r12), (.agg [(.int .i64 r13), (.int .i64 r14)])]) ∧ ∀ (H17 : Heap), Dead1 H15 1 H17 → Ret F fl ncalendar_Worked [(.agg [c0, c1]), (.int .i64 from2), (.int .i64 to4)] H17 (fun v22 H21 => ∃ (r18 : Int) (r19 : Int) (r20 : Int), v22 = (.tuple [(.int .i64 r18), (.agg [(.int .i64 r19), (.int .i64 r20)])]) ∧ ∀ (H23 : Heap), Dead1 H21 1 H23 → Ret F fl nLcalendarExample [] H23 (fun v26 H25 => ∃ (r24 : Bool), v26 = (.bool r24) ∧ ((¬(r24 = true)) → Q (.bool false) H25) ∧ (¬(¬(r24 = true)) → ((((((r7 ≠ 0) ∨ (r13 ≠ 0))) ∨ (r19 ≠ 0))) → Q (.bool true) H25) ∧ (¬(((((r7 ≠ 0) ∨ (r13 ≠ 0))) ∨ (r19 ≠ 0))) → Q (.bool ((((r18) == (IntKind.wrap .i64 (r6 + r12))) && (decide (r18 ≥ 0))) && (decide (r18 ≤ (IntKind.wrap .i64 (to4 - from2)))))) H25))))))) : Ret F fl me [(.agg [c0, c1]), (.int .i64 from2), (.int .i64 mid3), (.int .i64 to4)] H Q := by
  refine ret_intro hF rfl ?_
  refine w_seq ?_
  refine w_run [1, 0] ?_
  obtain ⟨H5, hb⟩ : ∃ H', Dead1 H 1 H' := ⟨_, ⟨rfl⟩⟩
  replace h := h H5 hb
  refine t_tomb true 1 (.agg [c0, c1]) [c0, c1] H5 H (by kernel_rfl) rfl hb ?_
  refine t_done [(.agg [c0, c1]), (.int .i64 from2), (.int .i64 mid3), (.int .i64 to4), (.bool false), (.agg [c0, c1]), .undef, .undef, .undef, .undef, .undef, .undef, .undef, .undef] H5 (by kernel_rfl) ?_
  refine then_norm ?_
  refine w_seq ?_
  refine w_run [0, 0, 0, 1, 0, 0, 0, 1, 0, 1] ?_
  refine t_call true ncalendar_Worked [(.agg [c0, c1]), (.int .i64 from2), (.int .i64 mid3)] H5 (by kernel_rfl) h ?_
  clear h
  rintro _ H9 ⟨r6, r7, r8, rfl, h⟩
  obtain ⟨H11, hb⟩ : ∃ H', Dead1 H9 1 H' := ⟨_, ⟨rfl⟩⟩
  replace h := h H11 hb
  refine t_tomb true 1 (.agg [(.int .i64 0), (.int .i64 0)]) [(.int .i64 0), (.int .i64 0)] H11 H9 (by kernel_rfl) rfl hb ?_
  refine t_upd true 2 0 [(.int .i64 0), (.int .i64 0)] (.agg [(.int .i64 r7), (.int .i64 r8)]) [(.int .i64 r7), (.int .i64 r8)] [(.int .i64 r7), (.int .i64 r8)] H11 (by kernel_rfl) rfl (all_c rfl (all_c rfl all_n)) ⟨rfl, Nat.le_of_ble_eq_true (by kernel_rfl), rfl⟩ ?_
  refine t_done [(.agg [c0, c1]), (.int .i64 from2), (.int .i64 mid3), (.int .i64 to4), (.bool false), (.agg [c0, c1]), .undef, (.agg [(.int .i64 r7), (.int .i64 r8)]), .undef, .undef, .undef, .undef, (.int .i64 r6), .undef] H11 (by kernel_rfl) ?_
  refine then_norm ?_
  refine w_seq ?_
  refine w_run [0, 0, 0, 1, 0, 0, 0, 1, 0, 1] ?_
  refine t_call true ncalendar_Worked [(.agg [c0, c1]), (.int .i64 mid3), (.int .i64 to4)] H11 (by kernel_rfl) h ?_
  clear h
  rintro _ H15 ⟨r12, r13, r14, rfl, h⟩
  obtain ⟨H17, hb⟩ : ∃ H', Dead1 H15 1 H' := ⟨_, ⟨rfl⟩⟩
  replace h := h H17 hb
  refine t_tomb true 1 (.agg [(.int .i64 0), (.int .i64 0)]) [(.int .i64 0), (.int .i64 0)] H17 H15 (by kernel_rfl) rfl hb ?_
  refine t_upd true 2 0 [(.int .i64 0), (.int .i64 0)] (.agg [(.int .i64 r13), (.int .i64 r14)]) [(.int .i64 r13), (.int .i64 r14)] [(.int .i64 r13), (.int .i64 r14)] H17 (by kernel_rfl) rfl (all_c rfl (all_c rfl all_n)) ⟨rfl, Nat.le_of_ble_eq_true (by kernel_rfl), rfl⟩ ?_
  refine t_done [(.agg [c0, c1]), (.int .i64 from2), (.int .i64 mid3), (.int .i64 to4), (.bool false), (.agg [c0, c1]), .undef, (.agg [(.int .i64 r7), (.int .i64 r8)]), (.agg [(.int .i64 r13), (.int .i64 r14)]), .undef, .undef, .undef, (.int .i64 r6), (.int .i64 r12)] H17 (by kernel_rfl) ?_
  refine then_norm ?_
  refine w_seq ?_
  refine w_run [0, 0, 0, 1, 0, 0, 0, 1, 0, 1] ?_
  refine t_call true ncalendar_Worked [(.agg [c0, c1]), (.int .i64 from2), (.int .i64 to4)] H17 (by kernel_rfl) h ?_
  clear h
  rintro _ H21 ⟨r18, r19, r20, rfl, h⟩
  obtain ⟨H23, hb⟩ : ∃ H', Dead1 H21 1 H' := ⟨_, ⟨rfl⟩⟩
  replace h := h H23 hb
  refine t_tomb true 1 (.agg [(.int .i64 0), (.int .i64 0)]) [(.int .i64 0), (.int .i64 0)] H23 H21 (by kernel_rfl) rfl hb ?_
  refine t_upd true 2 0 [(.int .i64 0), (.int .i64 0)] (.agg [(.int .i64 r19), (.int .i64 r20)]) [(.int .i64 r19), (.int .i64 r20)] [(.int .i64 r19), (.int .i64 r20)] H23 (by kernel_rfl) rfl (all_c rfl (all_c rfl all_n)) ⟨rfl, Nat.le_of_ble_eq_true (by kernel_rfl), rfl⟩ ?_
  refine t_done [(.agg [c0, c1]), (.int .i64 from2), (.int .i64 mid3), (.int .i64 to4), (.bool false), (.agg [c0, c1]), .undef, (.agg [(.int .i64 r7), (.int .i64 r8)]), (.agg [(.int .i64 r13), (.int .i64 r14)]), (.agg [(.int .i64 r19), (.int .i64 r20)]), .undef, (.int .i64 r18), (.int .i64 r6), (.int .i64 r12)] H23 (by kernel_rfl) ?_
  refine then_norm ?_
  refine w_seq ?_
  refine w_seq ?_
  refine w_run [1, 0] ?_
  refine t_call true nLcalendarExample [] H23 (by kernel_rfl) h ?_
  clear h
  rintro _ H25 ⟨r24, rfl, h⟩
  refine t_done [(.agg [c0, c1]), (.int .i64 from2), (.int .i64 mid3), (.int .i64 to4), (.bool false), (.agg [c0, c1]), (.bool (!r24)), (.agg [(.int .i64 r7), (.int .i64 r8)]), (.agg [(.int .i64 r13), (.int .i64 r14)]), (.agg [(.int .i64 r19), (.int .i64 r20)]), .undef, (.int .i64 r18), (.int .i64 r6), (.int .i64 r12)] H25 (by kernel_rfl) ?_
  refine then_norm ?_
  refine w_cond (t := (!r24)) rfl (fun hc => ?_) (fun hc => ?_)
  · replace h := h.1 ((is_not is_raw).t hc)
    refine w_seq ?_
    refine w_run [0] ?_
    refine t_done [(.agg [c0, c1]), (.int .i64 from2), (.int .i64 mid3), (.int .i64 to4), (.bool false), (.agg [c0, c1]), (.bool (!r24)), (.agg [(.int .i64 r7), (.int .i64 r8)]), (.agg [(.int .i64 r13), (.int .i64 r14)]), (.agg [(.int .i64 r19), (.int .i64 r20)]), .undef, (.int .i64 r18), (.int .i64 r6), (.int .i64 r12)] H25 (by kernel_rfl) ?_
    refine then_norm ?_
    refine w_ret ?_
    refine then_ret ?_
    exact body_ret (vs := [(.bool false)]) _ (by kernel_rfl) rfl h
  · replace h := h.2 ((is_not is_raw).f hc)
    refine w_skip ?_
    refine then_norm ?_
    refine w_seq ?_
    refine w_seq ?_
    refine w_run [0, 0, 0, 0, 0, 0, 0, 0, 0, 0, 0, 0, 0] ?_
    refine t_done [(.agg [c0, c1]), (.int .i64 from2), (.int .i64 mid3), (.int .i64 to4), (.bool false), (.agg [c0, c1]), (.bool (!r24)), (.agg [(.int .i64 r7), (.int .i64 r8)]), (.agg [(.int .i64 r13), (.int .i64 r14)]), (.agg [(.int .i64 r19), (.int .i64 r20)]), (.bool ((((r7) != 0) || ((r13) != 0)) || ((r19) != 0))), (.int .i64 r18), (.int .i64 r6), (.int .i64 r12)] H25 (by kernel_rfl) ?_
    refine then_norm ?_
    refine w_cond (t := ((((r7) != 0) || ((r13) != 0)) || ((r19) != 0))) rfl (fun hc => ?_) (fun hc => ?_)
    · replace h := h.1 ((is_or (is_or is_ne is_ne) is_ne).t hc)
      refine w_seq ?_
      refine w_run [0] ?_
      refine t_done [(.agg [c0, c1]), (.int .i64 from2), (.int .i64 mid3), (.int .i64 to4), (.bool true), (.agg [c0, c1]), (.bool (!r24)), (.agg [(.int .i64 r7), (.int .i64 r8)]), (.agg [(.int .i64 r13), (.int .i64 r14)]), (.agg [(.int .i64 r19), (.int .i64 r20)]), (.bool ((((r7) != 0) || ((r13) != 0)) || ((r19) != 0))), (.int .i64 r18), (.int .i64 r6), (.int .i64 r12)] H25 (by kernel_rfl) ?_
      refine then_norm ?_
      refine w_ret ?_
      refine then_ret ?_
      exact body_ret (vs := [(.bool true)]) _ (by kernel_rfl) rfl h
    · replace h := h.2 ((is_or (is_or is_ne is_ne) is_ne).f hc)
      refine w_skip ?_
      refine then_norm ?_
      refine w_seq ?_
      refine w_run [0, 0, 0, 0, 0, 0, 0, 0, 0, 0, 0, 0, 0, 0, 0, 0, 0] ?_
      refine t_done [(.agg [c0, c1]), (.int .i64 from2), (.int .i64 mid3), (.int .i64 to4), (.bool ((((r18) == (IntKind.wrap .i64 (r6 + r12))) && (decide (r18 ≥ 0))) && (decide (r18 ≤ (IntKind.wrap .i64 (to4 - from2)))))), (.agg [c0, c1]), (.bool (!r24)), (.agg [(.int .i64 r7), (.int .i64 r8)]), (.agg [(.int .i64 r13), (.int .i64 r14)]), (.agg [(.int .i64 r19), (.int .i64 r20)]), (.bool ((((r7) != 0) || ((r13) != 0)) || ((r19) != 0))), (.int .i64 r18), (.int .i64 r6), (.int .i64 r12)] H25 (by kernel_rfl) ?_
      refine then_norm ?_
      refine w_ret ?_
      exact body_ret (vs := [(.bool ((((r18) == (IntKind.wrap .i64 (r6 + r12))) && (decide (r18 ≥ 0))) && (decide (r18 ≤ (IntKind.wrap .i64 (to4 - from2))))))]) _ (by kernel_rfl) rfl h

-- LCalendarAddTakesMinutes
def rf_LCalendarAddTakesMinutes (ncalendar_Add ncalendar_Worked ncalendar_Open nLcalendarExample : Nat) : RFunc := ⟨3, 13, [.var 3],
 ((.seq (.ops [⟨.tomb 1 (.var 0), none, (some 4), true⟩, ⟨.move (.k (.bool false)), none, (some 3), true⟩])
 ((.seq (.ops [⟨.field 0 (some 2) (.var 4), none, none, true⟩, ⟨.move (.var 1), none, none, true⟩, ⟨.move (.var 2), none, none, true⟩, ⟨.callS ncalendar_Add [(.loc 0), (.loc 1), (.loc 2)], none, none, true⟩, ⟨.move (.loc 3), none, none, true⟩, ⟨.extract (.loc 4) 0, none, none, true⟩, ⟨.extract (.loc 4) 1, none, none, true⟩, ⟨.tomb 1 (.k (.agg [.int .i64 0, .int .i64 0])), none, (some 7), true⟩, ⟨.move (.loc 5), none, (some 5), true⟩, ⟨.upd 2 0 (.loc 7) (.loc 6), none, (some 7), true⟩])
 ((.seq (.ops [⟨.field 0 (some 2) (.var 4), none, none, true⟩, ⟨.move (.var 1), none, none, true⟩, ⟨.move (.var 5), none, none, true⟩, ⟨.callS ncalendar_Worked [(.loc 0), (.loc 1), (.loc 2)], none, none, true⟩, ⟨.move (.loc 3), none, none, true⟩, ⟨.extract (.loc 4) 0, none, none, true⟩, ⟨.extract (.loc 4) 1, none, none, true⟩, ⟨.tomb 1 (.k (.agg [.int .i64 0, .int .i64 0])), none, (some 9), true⟩, ⟨.move (.loc 5), none, (some 10), true⟩, ⟨.upd 2 0 (.loc 7) (.loc 6), none, (some 9), true⟩])
 ((.seq (.ops [⟨.field 0 (some 2) (.var 4), none, none, true⟩, ⟨.move (.var 5), none, none, true⟩, ⟨.bin .sub .no (.loc 1) (.k (.int .i64 1)), none, none, true⟩, ⟨.callS ncalendar_Open [(.loc 0), (.loc 2)], none, none, true⟩, ⟨.move (.loc 3), none, none, true⟩, ⟨.extract (.loc 4) 0, none, none, true⟩, ⟨.extract (.loc 4) 1, none, none, true⟩, ⟨.tomb 1 (.k (.agg [.int .i64 0, .int .i64 0])), none, (some 11), true⟩, ⟨.move (.loc 5), none, (some 12), true⟩, ⟨.upd 2 0 (.loc 7) (.loc 6), none, (some 11), true⟩])
 ((.seq ((.seq (.ops [⟨.callS nLcalendarExample [], none, none, true⟩, ⟨.un .not (.loc 0), none, (some 6), true⟩])
 (.cond (.var 6) ((.seq (.ops [⟨.move (.k (.bool false)), none, (some 3), true⟩])
 (.ret))) (.skip))))
 ((.seq ((.seq (.ops [⟨.field 0 none (.var 7), none, none, true⟩, ⟨.field 0 none (.var 7), none, none, true⟩, ⟨.bin .neq .no (.loc 1) (.k (.int .i64 0)), none, none, true⟩, ⟨.move (.loc 2), none, none, true⟩, ⟨.move (.var 5), none, none, true⟩, ⟨.bin .gtr .no (.loc 4) (.k (.int .i64 10000000)), none, none, true⟩, ⟨.pick (.loc 3) (.k (.bool true)) (.loc 5), none, (some 8), true⟩])
 (.cond (.var 8) ((.seq (.ops [⟨.move (.k (.bool true)), none, (some 3), true⟩])
 (.ret))) (.skip))))
 ((.seq (.ops [⟨.field 0 none (.var 9), none, none, true⟩, ⟨.field 0 none (.var 9), none, none, true⟩, ⟨.bin .eql .no (.loc 1) (.k (.int .i64 0)), none, none, true⟩, ⟨.move (.loc 2), none, none, true⟩, ⟨.move (.var 10), none, none, true⟩, ⟨.move (.var 2), none, none, true⟩, ⟨.bin .eql .no (.loc 4) (.loc 5), none, none, true⟩, ⟨.pick (.loc 3) (.loc 6) (.k (.bool false)), none, none, true⟩, ⟨.move (.loc 7), none, none, true⟩, ⟨.move (.var 5), none, none, true⟩, ⟨.move (.var 1), none, none, true⟩, ⟨.bin .geq .no (.loc 9) (.loc 10), none, none, true⟩, ⟨.pick (.loc 8) (.loc 11) (.k (.bool false)), none, none, true⟩, ⟨.move (.loc 12), none, none, true⟩, ⟨.move (.var 2), none, none, true⟩, ⟨.bin .eql .no (.loc 14) (.k (.int .i64 0)), none, none, true⟩, ⟨.move (.loc 15), none, none, true⟩, ⟨.move (.var 5), none, none, true⟩, ⟨.move (.var 1), none, none, true⟩, ⟨.bin .eql .no (.loc 17) (.loc 18), none, none, true⟩, ⟨.pick (.loc 16) (.loc 19) (.k (.bool false)), none, none, true⟩, ⟨.move (.loc 20), none, none, true⟩, ⟨.move (.var 2), none, none, true⟩, ⟨.bin .gtr .no (.loc 22) (.k (.int .i64 0)), none, none, true⟩, ⟨.move (.loc 23), none, none, true⟩, ⟨.field 0 none (.var 11), none, none, true⟩, ⟨.field 0 none (.var 11), none, none, true⟩, ⟨.bin .eql .no (.loc 26) (.k (.int .i64 0)), none, none, true⟩, ⟨.pick (.loc 24) (.loc 27) (.k (.bool false)), none, none, true⟩, ⟨.move (.loc 28), none, none, true⟩, ⟨.move (.var 12), none, none, true⟩, ⟨.pick (.loc 29) (.loc 30) (.k (.bool false)), none, none, true⟩, ⟨.pick (.loc 21) (.k (.bool true)) (.loc 31), none, none, true⟩, ⟨.pick (.loc 13) (.loc 32) (.k (.bool false)), none, none, true⟩, ⟨.move (.loc 33), none, (some 3), true⟩])
 (.ret)))))))))))))))⟩
theorem v_LCalendarAddTakesMinutes {F : Nat → Option RFunc} {me ncalendar_Add ncalendar_Worked ncalendar_Open nLcalendarExample : Nat} (hF : F me = some (rf_LCalendarAddTakesMinutes ncalendar_Add ncalendar_Worked ncalendar_Open nLcalendarExample)) {fl : Nat} {H : Heap} {Q : AV → Heap → Prop} (c0 : AV) (c1 : AV) (time2 : Int) (minutes3 : Int)
  (h : ∀ (H4 : Heap), Dead1 H 1 H4 → Ret F fl ncalendar_Add [(.agg [c0, c1]), (.int .i64 time2), (.int .i64 minutes3)] H4 (fun v9 H8 => ∃ (r5 : Int) (r6 : Int) (r7 : Int), v9 = (.tuple [(.int .i64 r5), (.agg [(.int .i64 r6), (.int .i64 r7)])]) ∧ ∀ (H10 : Heap), Dead1 H8 1 H10 → Ret F fl ncalendar_Worked [(.agg [c0, c1]), (.int .i64 time2), (.int .i64 r5)] H10 (fun v15 H14 => ∃ (r11 : Int) (r12 : Int) (r13 : Int), v15 = (.tuple [(.int .i64 r11), (.agg [(.int .i64 r12), (.int .i64 r13)])]) ∧ ∀ (H16 : Heap), Dead1 H14 1 H16 → Ret F fl ncalendar_Open [(.agg [c0, c1]), (.int .i64 (IntKind.wrap .i64 (r5 - 1)))] H16 (fun v21 H20 => ∃ (r17 : Bool) (r18 : Int) (r19 : Int), v21 = (.tuple [(.bool r17), (.agg [(.int .i64 r18), (.int .i64 r19)])]) ∧ ∀ (H22 : Heap), Dead1 H20 1 H22 → Ret F fl nLcalendarExample [] H22 (fun v25 H24 => ∃ (r23 : Bool), v25 = (.bool r23) ∧ ((¬(r23 = true)) → Q (.bool false) H24) ∧ (¬(¬(r23 = true)) → ((((r6 ≠ 0) ∨ (r5 > 10000000))) → Q (.bool true) H24) ∧ (¬(((r6 ≠ 0) ∨ (r5 > 10000000))) → Q (.bool (((((r12) == 0) && ((r11) == minutes3)) && (decide (r5 ≥ time2))) && ((((minutes3) == 0) && ((r5) == time2)) || (((decide (minutes3 > 0)) && ((r18) == 0)) && r17)))) H24))))))) : Ret F fl me [(.agg [c0, c1]), (.int .i64 time2), (.int .i64 minutes3)] H Q := by
  refine ret_intro hF rfl ?_
  refine w_seq ?_
  refine w_run [1, 0] ?_
  obtain ⟨H4, hb⟩ : ∃ H', Dead1 H 1 H' := ⟨_, ⟨rfl⟩⟩
  replace h := h H4 hb
  refine t_tomb true 1 (.agg [c0, c1]) [c0, c1] H4 H (by kernel_rfl) rfl hb ?_
  refine t_done [(.agg [c0, c1]), (.int .i64 time2), (.int .i64 minutes3), (.bool false), (.agg [c0, c1]), .undef, .undef, .undef, .undef, .undef, .undef, .undef, .undef] H4 (by kernel_rfl) ?_
  refine then_norm ?_
  refine w_seq ?_
  refine w_run [0, 0, 0, 1, 0, 0, 0, 1, 0, 1] ?_
  refine t_call true ncalendar_Add [(.agg [c0, c1]), (.int .i64 time2), (.int .i64 minutes3)] H4 (by kernel_rfl) h ?_
  clear h
  rintro _ H8 ⟨r5, r6, r7, rfl, h⟩
  obtain ⟨H10, hb⟩ : ∃ H', Dead1 H8 1 H' := ⟨_, ⟨rfl⟩⟩
  replace h := h H10 hb
  refine t_tomb true 1 (.agg [(.int .i64 0), (.int .i64 0)]) [(.int .i64 0), (.int .i64 0)] H10 H8 (by kernel_rfl) rfl hb ?_
  refine t_upd true 2 0 [(.int .i64 0), (.int .i64 0)] (.agg [(.int .i64 r6), (.int .i64 r7)]) [(.int .i64 r6), (.int .i64 r7)] [(.int .i64 r6), (.int .i64 r7)] H10 (by kernel_rfl) rfl (all_c rfl (all_c rfl all_n)) ⟨rfl, Nat.le_of_ble_eq_true (by kernel_rfl), rfl⟩ ?_
  refine t_done [(.agg [c0, c1]), (.int .i64 time2), (.int .i64 minutes3), (.bool false), (.agg [c0, c1]), (.int .i64 r5), .undef, (.agg [(.int .i64 r6), (.int .i64 r7)]), .undef, .undef, .undef, .undef, .undef] H10 (by kernel_rfl) ?_
  refine then_norm ?_
  refine w_seq ?_
  refine w_run [0, 0, 0, 1, 0, 0, 0, 1, 0, 1] ?_
  refine t_call true ncalendar_Worked [(.agg [c0, c1]), (.int .i64 time2), (.int .i64 r5)] H10 (by kernel_rfl) h ?_
  clear h
  rintro _ H14 ⟨r11, r12, r13, rfl, h⟩
  obtain ⟨H16, hb⟩ : ∃ H', Dead1 H14 1 H' := ⟨_, ⟨rfl⟩⟩
  replace h := h H16 hb
  refine t_tomb true 1 (.agg [(.int .i64 0), (.int .i64 0)]) [(.int .i64 0), (.int .i64 0)] H16 H14 (by kernel_rfl) rfl hb ?_
  refine t_upd true 2 0 [(.int .i64 0), (.int .i64 0)] (.agg [(.int .i64 r12), (.int .i64 r13)]) [(.int .i64 r12), (.int .i64 r13)] [(.int .i64 r12), (.int .i64 r13)] H16 (by kernel_rfl) rfl (all_c rfl (all_c rfl all_n)) ⟨rfl, Nat.le_of_ble_eq_true (by kernel_rfl), rfl⟩ ?_
  refine t_done [(.agg [c0, c1]), (.int .i64 time2), (.int .i64 minutes3), (.bool false), (.agg [c0, c1]), (.int .i64 r5), .undef, (.agg [(.int .i64 r6), (.int .i64 r7)]), .undef, (.agg [(.int .i64 r12), (.int .i64 r13)]), (.int .i64 r11), .undef, .undef] H16 (by kernel_rfl) ?_
  refine then_norm ?_
  refine w_seq ?_
  refine w_run [0, 0, 0, 1, 0, 0, 0, 1, 0, 1] ?_
  refine t_call true ncalendar_Open [(.agg [c0, c1]), (.int .i64 (IntKind.wrap .i64 (r5 - 1)))] H16 (by kernel_rfl) h ?_
  clear h
  rintro _ H20 ⟨r17, r18, r19, rfl, h⟩
  obtain ⟨H22, hb⟩ : ∃ H', Dead1 H20 1 H' := ⟨_, ⟨rfl⟩⟩
  replace h := h H22 hb
  refine t_tomb true 1 (.agg [(.int .i64 0), (.int .i64 0)]) [(.int .i64 0), (.int .i64 0)] H22 H20 (by kernel_rfl) rfl hb ?_
  refine t_upd true 2 0 [(.int .i64 0), (.int .i64 0)] (.agg [(.int .i64 r18), (.int .i64 r19)]) [(.int .i64 r18), (.int .i64 r19)] [(.int .i64 r18), (.int .i64 r19)] H22 (by kernel_rfl) rfl (all_c rfl (all_c rfl all_n)) ⟨rfl, Nat.le_of_ble_eq_true (by kernel_rfl), rfl⟩ ?_
  refine t_done [(.agg [c0, c1]), (.int .i64 time2), (.int .i64 minutes3), (.bool false), (.agg [c0, c1]), (.int .i64 r5), .undef, (.agg [(.int .i64 r6), (.int .i64 r7)]), .undef, (.agg [(.int .i64 r12), (.int .i64 r13)]), (.int .i64 r11), (.agg [(.int .i64 r18), (.int .i64 r19)]), (.bool r17)] H22 (by kernel_rfl) ?_
  refine then_norm ?_
  refine w_seq ?_
  refine w_seq ?_
  refine w_run [1, 0] ?_
  refine t_call true nLcalendarExample [] H22 (by kernel_rfl) h ?_
  clear h
  rintro _ H24 ⟨r23, rfl, h⟩
  refine t_done [(.agg [c0, c1]), (.int .i64 time2), (.int .i64 minutes3), (.bool false), (.agg [c0, c1]), (.int .i64 r5), (.bool (!r23)), (.agg [(.int .i64 r6), (.int .i64 r7)]), .undef, (.agg [(.int .i64 r12), (.int .i64 r13)]), (.int .i64 r11), (.agg [(.int .i64 r18), (.int .i64 r19)]), (.bool r17)] H24 (by kernel_rfl) ?_
  refine then_norm ?_
  refine w_cond (t := (!r23)) rfl (fun hc => ?_) (fun hc => ?_)
  · replace h := h.1 ((is_not is_raw).t hc)
    refine w_seq ?_
    refine w_run [0] ?_
    refine t_done [(.agg [c0, c1]), (.int .i64 time2), (.int .i64 minutes3), (.bool false), (.agg [c0, c1]), (.int .i64 r5), (.bool (!r23)), (.agg [(.int .i64 r6), (.int .i64 r7)]), .undef, (.agg [(.int .i64 r12), (.int .i64 r13)]), (.int .i64 r11), (.agg [(.int .i64 r18), (.int .i64 r19)]), (.bool r17)] H24 (by kernel_rfl) ?_
    refine then_norm ?_
    refine w_ret ?_
    refine then_ret ?_
    exact body_ret (vs := [(.bool false)]) _ (by kernel_rfl) rfl h
  · replace h := h.2 ((is_not is_raw).f hc)
    refine w_skip ?_
    refine then_norm ?_
    refine w_seq ?_
    refine w_seq ?_
    refine w_run [0, 0, 0, 0, 0, 0, 0] ?_
    refine t_done [(.agg [c0, c1]), (.int .i64 time2), (.int .i64 minutes3), (.bool false), (.agg [c0, c1]), (.int .i64 r5), (.bool (!r23)), (.agg [(.int .i64 r6), (.int .i64 r7)]), (.bool (((r6) != 0) || (decide (r5 > 10000000)))), (.agg [(.int .i64 r12), (.int .i64 r13)]), (.int .i64 r11), (.agg [(.int .i64 r18), (.int .i64 r19)]), (.bool r17)] H24 (by kernel_rfl) ?_
    refine then_norm ?_
    refine w_cond (t := (((r6) != 0) || (decide (r5 > 10000000)))) rfl (fun hc => ?_) (fun hc => ?_)
    · replace h := h.1 ((is_or is_ne is_dec).t hc)
      refine w_seq ?_
      refine w_run [0] ?_
      refine t_done [(.agg [c0, c1]), (.int .i64 time2), (.int .i64 minutes3), (.bool true), (.agg [c0, c1]), (.int .i64 r5), (.bool (!r23)), (.agg [(.int .i64 r6), (.int .i64 r7)]), (.bool (((r6) != 0) || (decide (r5 > 10000000)))), (.agg [(.int .i64 r12), (.int .i64 r13)]), (.int .i64 r11), (.agg [(.int .i64 r18), (.int .i64 r19)]), (.bool r17)] H24 (by kernel_rfl) ?_
      refine then_norm ?_
      refine w_ret ?_
      refine then_ret ?_
      exact body_ret (vs := [(.bool true)]) _ (by kernel_rfl) rfl h
    · replace h := h.2 ((is_or is_ne is_dec).f hc)
      refine w_skip ?_
      refine then_norm ?_
      refine w_seq ?_
      refine w_run [0, 0, 0, 0, 0, 0, 0, 0, 0, 0, 0, 0, 0, 0, 0, 0, 0, 0, 0, 0, 0, 0, 0, 0, 0, 0, 0, 0, 0, 0, 0, 0, 0, 0, 0] ?_
      refine t_done [(.agg [c0, c1]), (.int .i64 time2), (.int .i64 minutes3), (.bool (((((r12) == 0) && ((r11) == minutes3)) && (decide (r5 ≥ time2))) && ((((minutes3) == 0) && ((r5) == time2)) || (((decide (minutes3 > 0)) && ((r18) == 0)) && r17)))), (.agg [c0, c1]), (.int .i64 r5), (.bool (!r23)), (.agg [(.int .i64 r6), (.int .i64 r7)]), (.bool (((r6) != 0) || (decide (r5 > 10000000)))), (.agg [(.int .i64 r12), (.int .i64 r13)]), (.int .i64 r11), (.agg [(.int .i64 r18), (.int .i64 r19)]), (.bool r17)] H24 (by kernel_rfl) ?_
      refine then_norm ?_
      refine w_ret ?_
      exact body_ret (vs := [(.bool (((((r12) == 0) && ((r11) == minutes3)) && (decide (r5 ≥ time2))) && ((((minutes3) == 0) && ((r5) == time2)) || (((decide (minutes3 > 0)) && ((r18) == 0)) && r17))))]) _ (by kernel_rfl) rfl h

-- LCalendarNextIsFirst
def rf_LCalendarNextIsFirst (ncalendar_Next ncalendar_Open ncalendar_Worked nLcalendarExample : Nat) : RFunc := ⟨2, 12, [.var 2],
 ((.seq (.ops [⟨.tomb 1 (.var 0), none, (some 3), true⟩, ⟨.move (.k (.bool false)), none, (some 2), true⟩])
 ((.seq (.ops [⟨.field 0 (some 2) (.var 3), none, none, true⟩, ⟨.move (.var 1), none, none, true⟩, ⟨.callS ncalendar_Next [(.loc 0), (.loc 1)], none, none, true⟩, ⟨.move (.loc 2), none, none, true⟩, ⟨.extract (.loc 3) 0, none, none, true⟩, ⟨.extract (.loc 3) 1, none, none, true⟩, ⟨.tomb 1 (.k (.agg [.int .i64 0, .int .i64 0])), none, (some 6), true⟩, ⟨.move (.loc 4), none, (some 4), true⟩, ⟨.upd 2 0 (.loc 6) (.loc 5), none, (some 6), true⟩])
 ((.seq (.ops [⟨.field 0 (some 2) (.var 3), none, none, true⟩, ⟨.move (.var 4), none, none, true⟩, ⟨.callS ncalendar_Open [(.loc 0), (.loc 1)], none, none, true⟩, ⟨.move (.loc 2), none, none, true⟩, ⟨.extract (.loc 3) 0, none, none, true⟩, ⟨.extract (.loc 3) 1, none, none, true⟩, ⟨.tomb 1 (.k (.agg [.int .i64 0, .int .i64 0])), none, (some 8), true⟩, ⟨.move (.loc 4), none, (some 9), true⟩, ⟨.upd 2 0 (.loc 6) (.loc 5), none, (some 8), true⟩])
 ((.seq (.ops [⟨.field 0 (some 2) (.var 3), none, none, true⟩, ⟨.move (.var 1), none, none, true⟩, ⟨.move (.var 4), none, none, true⟩, ⟨.callS ncalendar_Worked [(.loc 0), (.loc 1), (.loc 2)], none, none, true⟩, ⟨.move (.loc 3), none, none, true⟩, ⟨.extract (.loc 4) 0, none, none, true⟩, ⟨.extract (.loc 4) 1, none, none, true⟩, ⟨.tomb 1 (.k (.agg [.int .i64 0, .int .i64 0])), none, (some 10), true⟩, ⟨.move (.loc 5), none, (some 11), true⟩, ⟨.upd 2 0 (.loc 7) (.loc 6), none, (some 10), true⟩])
 ((.seq ((.seq (.ops [⟨.callS nLcalendarExample [], none, none, true⟩, ⟨.un .not (.loc 0), none, (some 5), true⟩])
 (.cond (.var 5) ((.seq (.ops [⟨.move (.k (.bool false)), none, (some 2), true⟩])
 (.ret))) (.skip))))
 ((.seq ((.seq (.ops [⟨.field 0 none (.var 6), none, none, true⟩, ⟨.field 0 none (.var 6), none, none, true⟩, ⟨.bin .neq .no (.loc 1) (.k (.int .i64 0)), none, none, true⟩, ⟨.move (.loc 2), none, none, true⟩, ⟨.move (.var 4), none, none, true⟩, ⟨.bin .gtr .no (.loc 4) (.k (.int .i64 10000000)), none, none, true⟩, ⟨.pick (.loc 3) (.k (.bool true)) (.loc 5), none, (some 7), true⟩])
 (.cond (.var 7) ((.seq (.ops [⟨.move (.k (.bool true)), none, (some 2), true⟩])
 (.ret))) (.skip))))
 ((.seq (.ops [⟨.move (.var 4), none, none, true⟩, ⟨.move (.var 1), none, none, true⟩, ⟨.bin .geq .no (.loc 0) (.loc 1), none, none, true⟩, ⟨.move (.loc 2), none, none, true⟩, ⟨.field 0 none (.var 8), none, none, true⟩, ⟨.field 0 none (.var 8), none, none, true⟩, ⟨.bin .eql .no (.loc 5) (.k (.int .i64 0)), none, none, true⟩, ⟨.pick (.loc 3) (.loc 6) (.k (.bool false)), none, none, true⟩, ⟨.move (.loc 7), none, none, true⟩, ⟨.move (.var 9), none, none, true⟩, ⟨.pick (.loc 8) (.loc 9) (.k (.bool false)), none, none, true⟩, ⟨.move (.loc 10), none, none, true⟩, ⟨.field 0 none (.var 10), none, none, true⟩, ⟨.field 0 none (.var 10), none, none, true⟩, ⟨.bin .eql .no (.loc 13) (.k (.int .i64 0)), none, none, true⟩, ⟨.pick (.loc 11) (.loc 14) (.k (.bool false)), none, none, true⟩, ⟨.move (.loc 15), none, none, true⟩, ⟨.move (.var 11), none, none, true⟩, ⟨.bin .eql .no (.loc 17) (.k (.int .i64 0)), none, none, true⟩, ⟨.pick (.loc 16) (.loc 18) (.k (.bool false)), none, none, true⟩, ⟨.move (.loc 19), none, (some 2), true⟩])
 (.ret)))))))))))))))⟩
theorem v_LCalendarNextIsFirst {F : Nat → Option RFunc} {me ncalendar_Next ncalendar_Open ncalendar_Worked nLcalendarExample : Nat} (hF : F me = some (rf_LCalendarNextIsFirst ncalendar_Next ncalendar_Open ncalendar_Worked nLcalendarExample)) {fl : Nat} {H : Heap} {Q : AV → Heap → Prop} (c0 : AV) (c1 : AV) (time2 : Int)
  (h : ∀ (H3 : Heap), Dead1 H 1 H3 → Ret F fl ncalendar_Next [(.agg [c0, c1]), (.int .i64 time2)] H3 (fun v8 H7 => ∃ (r4 : Int) (r5 : Int) (r6 : Int), v8 = (.tuple [(.int .i64 r4), (.agg [(.int .i64 r5), (.int .i64 r6)])]) ∧ ∀ (H9 : Heap), Dead1 H7 1 H9 → Ret F fl ncalendar_Open [(.agg [c0, c1]), (.int .i64 r4)] H9 (fun v14 H13 => ∃ (r10 : Bool) (r11 : Int) (r12 : Int), v14 = (.tuple [(.bool r10), (.agg [(.int .i64 r11), (.int .i64 r12)])]) ∧ ∀ (H15 : Heap), Dead1 H13 1 H15 → Ret F fl ncalendar_Worked [(.agg [c0, c1]), (.int .i64 time2), (.int .i64 r4)] H15 (fun v20 H19 => ∃ (r16 : Int) (r17 : Int) (r18 : Int), v20 = (.tuple [(.int .i64 r16), (.agg [(.int .i64 r17), (.int .i64 r18)])]) ∧ ∀ (H21 : Heap), Dead1 H19 1 H21 → Ret F fl nLcalendarExample [] H21 (fun v24 H23 => ∃ (r22 : Bool), v24 = (.bool r22) ∧ ((¬(r22 = true)) → Q (.bool false) H23) ∧ (¬(¬(r22 = true)) → ((((r5 ≠ 0) ∨ (r4 > 10000000))) → Q (.bool true) H23) ∧ (¬(((r5 ≠ 0) ∨ (r4 > 10000000))) → Q (.bool (((((decide (r4 ≥ time2)) && ((r11) == 0)) && r10) && ((r17) == 0)) && ((r16) == 0))) H23))))))) : Ret F fl me [(.agg [c0, c1]), (.int .i64 time2)] H Q := by
  refine ret_intro hF rfl ?_
  refine w_seq ?_
  refine w_run [1, 0] ?_
  obtain ⟨H3, hb⟩ : ∃ H', Dead1 H 1 H' := ⟨_, ⟨rfl⟩⟩
  replace h := h H3 hb
  refine t_tomb true 1 (.agg [c0, c1]) [c0, c1] H3 H (by kernel_rfl) rfl hb ?_
  refine t_done [(.agg [c0, c1]), (.int .i64 time2), (.bool false), (.agg [c0, c1]), .undef, .undef, .undef, .undef, .undef, .undef, .undef, .undef] H3 (by kernel_rfl) ?_
  refine then_norm ?_
  refine w_seq ?_
  refine w_run [0, 0, 1, 0, 0, 0, 1, 0, 1] ?_
  refine t_call true ncalendar_Next [(.agg [c0, c1]), (.int .i64 time2)] H3 (by kernel_rfl) h ?_
  clear h
  rintro _ H7 ⟨r4, r5, r6, rfl, h⟩
  obtain ⟨H9, hb⟩ : ∃ H', Dead1 H7 1 H' := ⟨_, ⟨rfl⟩⟩
  replace h := h H9 hb
  refine t_tomb true 1 (.agg [(.int .i64 0), (.int .i64 0)]) [(.int .i64 0), (.int .i64 0)] H9 H7 (by kernel_rfl) rfl hb ?_
  refine t_upd true 2 0 [(.int .i64 0), (.int .i64 0)] (.agg [(.int .i64 r5), (.int .i64 r6)]) [(.int .i64 r5), (.int .i64 r6)] [(.int .i64 r5), (.int .i64 r6)] H9 (by kernel_rfl) rfl (all_c rfl (all_c rfl all_n)) ⟨rfl, Nat.le_of_ble_eq_true (by kernel_rfl), rfl⟩ ?_
  refine t_done [(.agg [c0, c1]), (.int .i64 time2), (.bool false), (.agg [c0, c1]), (.int .i64 r4), .undef, (.agg [(.int .i64 r5), (.int .i64 r6)]), .undef, .undef, .undef, .undef, .undef] H9 (by kernel_rfl) ?_
  refine then_norm ?_
  refine w_seq ?_
  refine w_run [0, 0, 1, 0, 0, 0, 1, 0, 1] ?_
  refine t_call true ncalendar_Open [(.agg [c0, c1]), (.int .i64 r4)] H9 (by kernel_rfl) h ?_
  clear h
  rintro _ H13 ⟨r10, r11, r12, rfl, h⟩
  obtain ⟨H15, hb⟩ : ∃ H', Dead1 H13 1 H' := ⟨_, ⟨rfl⟩⟩
  replace h := h H15 hb
  refine t_tomb true 1 (.agg [(.int .i64 0), (.int .i64 0)]) [(.int .i64 0), (.int .i64 0)] H15 H13 (by kernel_rfl) rfl hb ?_
  refine t_upd true 2 0 [(.int .i64 0), (.int .i64 0)] (.agg [(.int .i64 r11), (.int .i64 r12)]) [(.int .i64 r11), (.int .i64 r12)] [(.int .i64 r11), (.int .i64 r12)] H15 (by kernel_rfl) rfl (all_c rfl (all_c rfl all_n)) ⟨rfl, Nat.le_of_ble_eq_true (by kernel_rfl), rfl⟩ ?_
  refine t_done [(.agg [c0, c1]), (.int .i64 time2), (.bool false), (.agg [c0, c1]), (.int .i64 r4), .undef, (.agg [(.int .i64 r5), (.int .i64 r6)]), .undef, (.agg [(.int .i64 r11), (.int .i64 r12)]), (.bool r10), .undef, .undef] H15 (by kernel_rfl) ?_
  refine then_norm ?_
  refine w_seq ?_
  refine w_run [0, 0, 0, 1, 0, 0, 0, 1, 0, 1] ?_
  refine t_call true ncalendar_Worked [(.agg [c0, c1]), (.int .i64 time2), (.int .i64 r4)] H15 (by kernel_rfl) h ?_
  clear h
  rintro _ H19 ⟨r16, r17, r18, rfl, h⟩
  obtain ⟨H21, hb⟩ : ∃ H', Dead1 H19 1 H' := ⟨_, ⟨rfl⟩⟩
  replace h := h H21 hb
  refine t_tomb true 1 (.agg [(.int .i64 0), (.int .i64 0)]) [(.int .i64 0), (.int .i64 0)] H21 H19 (by kernel_rfl) rfl hb ?_
  refine t_upd true 2 0 [(.int .i64 0), (.int .i64 0)] (.agg [(.int .i64 r17), (.int .i64 r18)]) [(.int .i64 r17), (.int .i64 r18)] [(.int .i64 r17), (.int .i64 r18)] H21 (by kernel_rfl) rfl (all_c rfl (all_c rfl all_n)) ⟨rfl, Nat.le_of_ble_eq_true (by kernel_rfl), rfl⟩ ?_
  refine t_done [(.agg [c0, c1]), (.int .i64 time2), (.bool false), (.agg [c0, c1]), (.int .i64 r4), .undef, (.agg [(.int .i64 r5), (.int .i64 r6)]), .undef, (.agg [(.int .i64 r11), (.int .i64 r12)]), (.bool r10), (.agg [(.int .i64 r17), (.int .i64 r18)]), (.int .i64 r16)] H21 (by kernel_rfl) ?_
  refine then_norm ?_
  refine w_seq ?_
  refine w_seq ?_
  refine w_run [1, 0] ?_
  refine t_call true nLcalendarExample [] H21 (by kernel_rfl) h ?_
  clear h
  rintro _ H23 ⟨r22, rfl, h⟩
  refine t_done [(.agg [c0, c1]), (.int .i64 time2), (.bool false), (.agg [c0, c1]), (.int .i64 r4), (.bool (!r22)), (.agg [(.int .i64 r5), (.int .i64 r6)]), .undef, (.agg [(.int .i64 r11), (.int .i64 r12)]), (.bool r10), (.agg [(.int .i64 r17), (.int .i64 r18)]), (.int .i64 r16)] H23 (by kernel_rfl) ?_
  refine then_norm ?_
  refine w_cond (t := (!r22)) rfl (fun hc => ?_) (fun hc => ?_)
  · replace h := h.1 ((is_not is_raw).t hc)
    refine w_seq ?_
    refine w_run [0] ?_
    refine t_done [(.agg [c0, c1]), (.int .i64 time2), (.bool false), (.agg [c0, c1]), (.int .i64 r4), (.bool (!r22)), (.agg [(.int .i64 r5), (.int .i64 r6)]), .undef, (.agg [(.int .i64 r11), (.int .i64 r12)]), (.bool r10), (.agg [(.int .i64 r17), (.int .i64 r18)]), (.int .i64 r16)] H23 (by kernel_rfl) ?_
    refine then_norm ?_
    refine w_ret ?_
    refine then_ret ?_
    exact body_ret (vs := [(.bool false)]) _ (by kernel_rfl) rfl h
  · replace h := h.2 ((is_not is_raw).f hc)
    refine w_skip ?_
    refine then_norm ?_
    refine w_seq ?_
    refine w_seq ?_
    refine w_run [0, 0, 0, 0, 0, 0, 0] ?_
    refine t_done [(.agg [c0, c1]), (.int .i64 time2), (.bool false), (.agg [c0, c1]), (.int .i64 r4), (.bool (!r22)), (.agg [(.int .i64 r5), (.int .i64 r6)]), (.bool (((r5) != 0) || (decide (r4 > 10000000)))), (.agg [(.int .i64 r11), (.int .i64 r12)]), (.bool r10), (.agg [(.int .i64 r17), (.int .i64 r18)]), (.int .i64 r16)] H23 (by kernel_rfl) ?_
    refine then_norm ?_
    refine w_cond (t := (((r5) != 0) || (decide (r4 > 10000000)))) rfl (fun hc => ?_) (fun hc => ?_)
    · replace h := h.1 ((is_or is_ne is_dec).t hc)
      refine w_seq ?_
      refine w_run [0] ?_
      refine t_done [(.agg [c0, c1]), (.int .i64 time2), (.bool true), (.agg [c0, c1]), (.int .i64 r4), (.bool (!r22)), (.agg [(.int .i64 r5), (.int .i64 r6)]), (.bool (((r5) != 0) || (decide (r4 > 10000000)))), (.agg [(.int .i64 r11), (.int .i64 r12)]), (.bool r10), (.agg [(.int .i64 r17), (.int .i64 r18)]), (.int .i64 r16)] H23 (by kernel_rfl) ?_
      refine then_norm ?_
      refine w_ret ?_
      refine then_ret ?_
      exact body_ret (vs := [(.bool true)]) _ (by kernel_rfl) rfl h
    · replace h := h.2 ((is_or is_ne is_dec).f hc)
      refine w_skip ?_
      refine then_norm ?_
      refine w_seq ?_
      refine w_run [0, 0, 0, 0, 0, 0, 0, 0, 0, 0, 0, 0, 0, 0, 0, 0, 0, 0, 0, 0, 0] ?_
      refine t_done [(.agg [c0, c1]), (.int .i64 time2), (.bool (((((decide (r4 ≥ time2)) && ((r11) == 0)) && r10) && ((r17) == 0)) && ((r16) == 0))), (.agg [c0, c1]), (.int .i64 r4), (.bool (!r22)), (.agg [(.int .i64 r5), (.int .i64 r6)]), (.bool (((r5) != 0) || (decide (r4 > 10000000)))), (.agg [(.int .i64 r11), (.int .i64 r12)]), (.bool r10), (.agg [(.int .i64 r17), (.int .i64 r18)]), (.int .i64 r16)] H23 (by kernel_rfl) ?_
      refine then_norm ?_
      refine w_ret ?_
      exact body_ret (vs := [(.bool (((((decide (r4 ≥ time2)) && ((r11) == 0)) && r10) && ((r17) == 0)) && ((r16) == 0)))]) _ (by kernel_rfl) rfl h

-- LCalendarRepeatsWeekly
def rf_LCalendarRepeatsWeekly (ncalendar_Open ncalendar_Worked nLcalendarExample : Nat) : RFunc := ⟨3, 15, [.var 3],
 ((.seq (.ops [⟨.tomb 1 (.var 0), none, (some 4), true⟩, ⟨.move (.k (.bool false)), none, (some 3), true⟩])
 ((.seq (.ops [⟨.field 0 none (.var 4), none, none, true⟩, ⟨.field 0 none (.var 4), none, none, true⟩, ⟨.build [.empty, .empty] [(0, 1, (.loc 1))], none, none, true⟩, ⟨.tomb 1 (.k (.agg [.empty, .empty])), none, (some 5), true⟩, ⟨.upd 2 0 (.loc 3) (.loc 2), none, (some 5), true⟩])
 ((.seq (.ops [⟨.field 0 (some 2) (.var 5), none, none, true⟩, ⟨.move (.var 1), none, none, true⟩, ⟨.callS ncalendar_Open [(.loc 0), (.loc 1)], none, none, true⟩, ⟨.move (.loc 2), none, none, true⟩, ⟨.extract (.loc 3) 0, none, none, true⟩, ⟨.extract (.loc 3) 1, none, none, true⟩, ⟨.tomb 1 (.k (.agg [.int .i64 0, .int .i64 0])), none, (some 7), true⟩, ⟨.move (.loc 4), none, (some 9), true⟩, ⟨.upd 2 0 (.loc 6) (.loc 5), none, (some 7), true⟩])
 ((.seq (.ops [⟨.field 0 (some 2) (.var 5), none, none, true⟩, ⟨.move (.var 1), none, none, true⟩, ⟨.bin .add .no (.loc 1) (.k (.int .i64 10080)), none, none, true⟩, ⟨.callS ncalendar_Open [(.loc 0), (.loc 2)], none, none, true⟩, ⟨.move (.loc 3), none, none, true⟩, ⟨.extract (.loc 4) 0, none, none, true⟩, ⟨.extract (.loc 4) 1, none, none, true⟩, ⟨.tomb 1 (.k (.agg [.int .i64 0, .int .i64 0])), none, (some 8), true⟩, ⟨.move (.loc 5), none, (some 10), true⟩, ⟨.upd 2 0 (.loc 7) (.loc 6), none, (some 8), true⟩])
 ((.seq (.ops [⟨.field 0 (some 2) (.var 5), none, none, true⟩, ⟨.move (.var 1), none, none, true⟩, ⟨.move (.var 2), none, none, true⟩, ⟨.callS ncalendar_Worked [(.loc 0), (.loc 1), (.loc 2)], none, none, true⟩, ⟨.move (.loc 3), none, none, true⟩, ⟨.extract (.loc 4) 0, none, none, true⟩, ⟨.extract (.loc 4) 1, none, none, true⟩, ⟨.tomb 1 (.k (.agg [.int .i64 0, .int .i64 0])), none, (some 11), true⟩, ⟨.move (.loc 5), none, (some 13), true⟩, ⟨.upd 2 0 (.loc 7) (.loc 6), none, (some 11), true⟩])
 ((.seq (.ops [⟨.field 0 (some 2) (.var 5), none, none, true⟩, ⟨.move (.var 1), none, none, true⟩, ⟨.bin .add .no (.loc 1) (.k (.int .i64 10080)), none, none, true⟩, ⟨.move (.var 2), none, none, true⟩, ⟨.bin .add .no (.loc 3) (.k (.int .i64 10080)), none, none, true⟩, ⟨.callS ncalendar_Worked [(.loc 0), (.loc 2), (.loc 4)], none, none, true⟩, ⟨.move (.loc 5), none, none, true⟩, ⟨.extract (.loc 6) 0, none, none, true⟩, ⟨.extract (.loc 6) 1, none, none, true⟩, ⟨.tomb 1 (.k (.agg [.int .i64 0, .int .i64 0])), none, (some 12), true⟩, ⟨.move (.loc 7), none, (some 14), true⟩, ⟨.upd 2 0 (.loc 9) (.loc 8), none, (some 12), true⟩])
 ((.seq ((.seq (.ops [⟨.callS nLcalendarExample [], none, none, true⟩, ⟨.un .not (.loc 0), none, (some 6), true⟩])
 (.cond (.var 6) ((.seq (.ops [⟨.move (.k (.bool false)), none, (some 3), true⟩])
 (.ret))) (.skip))))
 ((.seq (.ops [⟨.field 0 none (.var 7), none, none, true⟩, ⟨.field 0 none (.var 7), none, none, true⟩, ⟨.bin .neq .no (.loc 1) (.k (.int .i64 0)), none, none, true⟩, ⟨.move (.loc 2), none, none, true⟩, ⟨.field 0 none (.var 8), none, none, true⟩, ⟨.field 0 none (.var 8), none, none, true⟩, ⟨.bin .neq .no (.loc 5) (.k (.int .i64 0)), none, none, true⟩, ⟨.pick (.loc 3) (.k (.bool true)) (.loc 6), none, none, true⟩, ⟨.move (.loc 7), none, none, true⟩, ⟨.move (.var 9), none, none, true⟩, ⟨.move (.var 10), none, none, true⟩, ⟨.bin .eql .bool (.loc 9) (.loc 10), none, none, true⟩, ⟨.pick (.loc 8) (.k (.bool true)) (.loc 11), none, none, true⟩, ⟨.move (.loc 12), none, none, true⟩, ⟨.field 0 none (.var 11), none, none, true⟩, ⟨.field 0 none (.var 11), none, none, true⟩, ⟨.bin .neq .no (.loc 15) (.k (.int .i64 0)), none, none, true⟩, ⟨.move (.loc 16), none, none, true⟩, ⟨.field 0 none (.var 12), none, none, true⟩, ⟨.field 0 none (.var 12), none, none, true⟩, ⟨.bin .neq .no (.loc 19) (.k (.int .i64 0)), none, none, true⟩, ⟨.pick (.loc 17) (.k (.bool true)) (.loc 20), none, none, true⟩, ⟨.move (.loc 21), none, none, true⟩, ⟨.move (.var 13), none, none, true⟩, ⟨.move (.var 14), none, none, true⟩, ⟨.bin .eql .no (.loc 23) (.loc 24), none, none, true⟩, ⟨.pick (.loc 22) (.k (.bool true)) (.loc 25), none, none, true⟩, ⟨.pick (.loc 13) (.loc 26) (.k (.bool false)), none, none, true⟩, ⟨.move (.loc 27), none, (some 3), true⟩])
 (.ret)))))))))))))))))⟩
theorem v_LCalendarRepeatsWeekly {F : Nat → Option RFunc} {me ncalendar_Open ncalendar_Worked nLcalendarExample : Nat} (hF : F me = some (rf_LCalendarRepeatsWeekly ncalendar_Open ncalendar_Worked nLcalendarExample)) {fl : Nat} {H : Heap} {Q : AV → Heap → Prop} (c0 : AV) (c1 : AV) (from2 : Int) (to3 : Int)
  (h : ∀ (H4 : Heap), Dead1 H 1 H4 → Scal c0 ∧ ∀ (H6 : Heap), Dead1 H4 1 H6 → Ret F fl ncalendar_Open [(.agg [c0, .empty]), (.int .i64 from2)] H6 (fun v11 H10 => ∃ (r7 : Bool) (r8 : Int) (r9 : Int), v11 = (.tuple [(.bool r7), (.agg [(.int .i64 r8), (.int .i64 r9)])]) ∧ ∀ (H12 : Heap), Dead1 H10 1 H12 → Ret F fl ncalendar_Open [(.agg [c0, .empty]), (.int .i64 (IntKind.wrap .i64 (from2 + 10080)))] H12 (fun v17 H16 => ∃ (r13 : Bool) (r14 : Int) (r15 : Int), v17 = (.tuple [(.bool r13), (.agg [(.int .i64 r14), (.int .i64 r15)])]) ∧ ∀ (H18 : Heap), Dead1 H16 1 H18 → Ret F fl ncalendar_Worked [(.agg [c0, .empty]), (.int .i64 from2), (.int .i64 to3)] H18 (fun v23 H22 => ∃ (r19 : Int) (r20 : Int) (r21 : Int), v23 = (.tuple [(.int .i64 r19), (.agg [(.int .i64 r20), (.int .i64 r21)])]) ∧ ∀ (H24 : Heap), Dead1 H22 1 H24 → Ret F fl ncalendar_Worked [(.agg [c0, .empty]), (.int .i64 (IntKind.wrap .i64 (from2 + 10080))), (.int .i64 (IntKind.wrap .i64 (to3 + 10080)))] H24 (fun v29 H28 => ∃ (r25 : Int) (r26 : Int) (r27 : Int), v29 = (.tuple [(.int .i64 r25), (.agg [(.int .i64 r26), (.int .i64 r27)])]) ∧ ∀ (H30 : Heap), Dead1 H28 1 H30 → Ret F fl nLcalendarExample [] H30 (fun v33 H32 => ∃ (r31 : Bool), v33 = (.bool r31) ∧ ((¬(r31 = true)) → Q (.bool false) H32) ∧ (¬(¬(r31 = true)) → Q (.bool (((((r8) != 0) || ((r14) != 0)) || (r7 == r13)) && ((((r20) != 0) || ((r26) != 0)) || ((r19) == r25)))) H32))))))) : Ret F fl me [(.agg [c0, c1]), (.int .i64 from2), (.int .i64 to3)] H Q := by
  refine ret_intro hF rfl ?_
  refine w_seq ?_
  refine w_run [1, 0] ?_
  obtain ⟨H4, hb⟩ : ∃ H', Dead1 H 1 H' := ⟨_, ⟨rfl⟩⟩
  replace h := h H4 hb
  refine t_tomb true 1 (.agg [c0, c1]) [c0, c1] H4 H (by kernel_rfl) rfl hb ?_
  refine t_done [(.agg [c0, c1]), (.int .i64 from2), (.int .i64 to3), (.bool false), (.agg [c0, c1]), .undef, .undef, .undef, .undef, .undef, .undef, .undef, .undef, .undef, .undef] H4 (by kernel_rfl) ?_
  refine then_norm ?_
  refine w_seq ?_
  refine w_run [0, 0, 1, 1, 1] ?_
  obtain ⟨hs5, h⟩ := h
  refine t_build true [.empty, .empty] [(0, 1, .loc 0)] [c0] [c0, .empty] H4 (by kernel_rfl) (fill_c (vs := [c0]) (size := 1) hs5.1 (by kernel_rfl) (by kernel_rfl) (by kernel_rfl)) ?_
  obtain ⟨H6, hb⟩ : ∃ H', Dead1 H4 1 H' := ⟨_, ⟨rfl⟩⟩
  replace h := h H6 hb
  refine t_tomb true 1 (.agg [.empty, .empty]) [.empty, .empty] H6 H4 (by kernel_rfl) rfl hb ?_
  refine t_upd true 2 0 [.empty, .empty] (.agg [c0, .empty]) [c0, .empty] [c0, .empty] H6 (by kernel_rfl) rfl (all_c hs5.2 (all_c rfl all_n)) ⟨rfl, Nat.le_of_ble_eq_true (by kernel_rfl), rfl⟩ ?_
  refine t_done [(.agg [c0, c1]), (.int .i64 from2), (.int .i64 to3), (.bool false), (.agg [c0, c1]), (.agg [c0, .empty]), .undef, .undef, .undef, .undef, .undef, .undef, .undef, .undef, .undef] H6 (by kernel_rfl) ?_
  refine then_norm ?_
  refine w_seq ?_
  refine w_run [0, 0, 1, 0, 0, 0, 1, 0, 1] ?_
  refine t_call true ncalendar_Open [(.agg [c0, .empty]), (.int .i64 from2)] H6 (by kernel_rfl) h ?_
  clear h
  rintro _ H10 ⟨r7, r8, r9, rfl, h⟩
  obtain ⟨H12, hb⟩ : ∃ H', Dead1 H10 1 H' := ⟨_, ⟨rfl⟩⟩
  replace h := h H12 hb
  refine t_tomb true 1 (.agg [(.int .i64 0), (.int .i64 0)]) [(.int .i64 0), (.int .i64 0)] H12 H10 (by kernel_rfl) rfl hb ?_
  refine t_upd true 2 0 [(.int .i64 0), (.int .i64 0)] (.agg [(.int .i64 r8), (.int .i64 r9)]) [(.int .i64 r8), (.int .i64 r9)] [(.int .i64 r8), (.int .i64 r9)] H12 (by kernel_rfl) rfl (all_c rfl (all_c rfl all_n)) ⟨rfl, Nat.le_of_ble_eq_true (by kernel_rfl), rfl⟩ ?_
  refine t_done [(.agg [c0, c1]), (.int .i64 from2), (.int .i64 to3), (.bool false), (.agg [c0, c1]), (.agg [c0, .empty]), .undef, (.agg [(.int .i64 r8), (.int .i64 r9)]), .undef, (.bool r7), .undef, .undef, .undef, .undef, .undef] H12 (by kernel_rfl) ?_
  refine then_norm ?_
  refine w_seq ?_
  refine w_run [0, 0, 0, 1, 0, 0, 0, 1, 0, 1] ?_
  refine t_call true ncalendar_Open [(.agg [c0, .empty]), (.int .i64 (IntKind.wrap .i64 (from2 + 10080)))] H12 (by kernel_rfl) h ?_
  clear h
  rintro _ H16 ⟨r13, r14, r15, rfl, h⟩
  obtain ⟨H18, hb⟩ : ∃ H', Dead1 H16 1 H' := ⟨_, ⟨rfl⟩⟩
  replace h := h H18 hb
  refine t_tomb true 1 (.agg [(.int .i64 0), (.int .i64 0)]) [(.int .i64 0), (.int .i64 0)] H18 H16 (by kernel_rfl) rfl hb ?_
  refine t_upd true 2 0 [(.int .i64 0), (.int .i64 0)] (.agg [(.int .i64 r14), (.int .i64 r15)]) [(.int .i64 r14), (.int .i64 r15)] [(.int .i64 r14), (.int .i64 r15)] H18 (by kernel_rfl) rfl (all_c rfl (all_c rfl all_n)) ⟨rfl, Nat.le_of_ble_eq_true (by kernel_rfl), rfl⟩ ?_
  refine t_done [(.agg [c0, c1]), (.int .i64 from2), (.int .i64 to3), (.bool false), (.agg [c0, c1]), (.agg [c0, .empty]), .undef, (.agg [(.int .i64 r8), (.int .i64 r9)]), (.agg [(.int .i64 r14), (.int .i64 r15)]), (.bool r7), (.bool r13), .undef, .undef, .undef, .undef] H18 (by kernel_rfl) ?_
  refine then_norm ?_
  refine w_seq ?_
  refine w_run [0, 0, 0, 1, 0, 0, 0, 1, 0, 1] ?_
  refine t_call true ncalendar_Worked [(.agg [c0, .empty]), (.int .i64 from2), (.int .i64 to3)] H18 (by kernel_rfl) h ?_
  clear h
  rintro _ H22 ⟨r19, r20, r21, rfl, h⟩
  obtain ⟨H24, hb⟩ : ∃ H', Dead1 H22 1 H' := ⟨_, ⟨rfl⟩⟩
  replace h := h H24 hb
  refine t_tomb true 1 (.agg [(.int .i64 0), (.int .i64 0)]) [(.int .i64 0), (.int .i64 0)] H24 H22 (by kernel_rfl) rfl hb ?_
  refine t_upd true 2 0 [(.int .i64 0), (.int .i64 0)] (.agg [(.int .i64 r20), (.int .i64 r21)]) [(.int .i64 r20), (.int .i64 r21)] [(.int .i64 r20), (.int .i64 r21)] H24 (by kernel_rfl) rfl (all_c rfl (all_c rfl all_n)) ⟨rfl, Nat.le_of_ble_eq_true (by kernel_rfl), rfl⟩ ?_
  refine t_done [(.agg [c0, c1]), (.int .i64 from2), (.int .i64 to3), (.bool false), (.agg [c0, c1]), (.agg [c0, .empty]), .undef, (.agg [(.int .i64 r8), (.int .i64 r9)]), (.agg [(.int .i64 r14), (.int .i64 r15)]), (.bool r7), (.bool r13), (.agg [(.int .i64 r20), (.int .i64 r21)]), .undef, (.int .i64 r19), .undef] H24 (by kernel_rfl) ?_
  refine then_norm ?_
  refine w_seq ?_
  refine w_run [0, 0, 0, 0, 0, 1, 0, 0, 0, 1, 0, 1] ?_
  refine t_call true ncalendar_Worked [(.agg [c0, .empty]), (.int .i64 (IntKind.wrap .i64 (from2 + 10080))), (.int .i64 (IntKind.wrap .i64 (to3 + 10080)))] H24 (by kernel_rfl) h ?_
  clear h
  rintro _ H28 ⟨r25, r26, r27, rfl, h⟩
  obtain ⟨H30, hb⟩ : ∃ H', Dead1 H28 1 H' := ⟨_, ⟨rfl⟩⟩
  replace h := h H30 hb
  refine t_tomb true 1 (.agg [(.int .i64 0), (.int .i64 0)]) [(.int .i64 0), (.int .i64 0)] H30 H28 (by kernel_rfl) rfl hb ?_
  refine t_upd true 2 0 [(.int .i64 0), (.int .i64 0)] (.agg [(.int .i64 r26), (.int .i64 r27)]) [(.int .i64 r26), (.int .i64 r27)] [(.int .i64 r26), (.int .i64 r27)] H30 (by kernel_rfl) rfl (all_c rfl (all_c rfl all_n)) ⟨rfl, Nat.le_of_ble_eq_true (by kernel_rfl), rfl⟩ ?_
  refine t_done [(.agg [c0, c1]), (.int .i64 from2), (.int .i64 to3), (.bool false), (.agg [c0, c1]), (.agg [c0, .empty]), .undef, (.agg [(.int .i64 r8), (.int .i64 r9)]), (.agg [(.int .i64 r14), (.int .i64 r15)]), (.bool r7), (.bool r13), (.agg [(.int .i64 r20), (.int .i64 r21)]), (.agg [(.int .i64 r26), (.int .i64 r27)]), (.int .i64 r19), (.int .i64 r25)] H30 (by kernel_rfl) ?_
  refine then_norm ?_
  refine w_seq ?_
  refine w_seq ?_
  refine w_run [1, 0] ?_
  refine t_call true nLcalendarExample [] H30 (by kernel_rfl) h ?_
  clear h
  rintro _ H32 ⟨r31, rfl, h⟩
  refine t_done [(.agg [c0, c1]), (.int .i64 from2), (.int .i64 to3), (.bool false), (.agg [c0, c1]), (.agg [c0, .empty]), (.bool (!r31)), (.agg [(.int .i64 r8), (.int .i64 r9)]), (.agg [(.int .i64 r14), (.int .i64 r15)]), (.bool r7), (.bool r13), (.agg [(.int .i64 r20), (.int .i64 r21)]), (.agg [(.int .i64 r26), (.int .i64 r27)]), (.int .i64 r19), (.int .i64 r25)] H32 (by kernel_rfl) ?_
  refine then_norm ?_
  refine w_cond (t := (!r31)) rfl (fun hc => ?_) (fun hc => ?_)
  · replace h := h.1 ((is_not is_raw).t hc)
    refine w_seq ?_
    refine w_run [0] ?_
    refine t_done [(.agg [c0, c1]), (.int .i64 from2), (.int .i64 to3), (.bool false), (.agg [c0, c1]), (.agg [c0, .empty]), (.bool (!r31)), (.agg [(.int .i64 r8), (.int .i64 r9)]), (.agg [(.int .i64 r14), (.int .i64 r15)]), (.bool r7), (.bool r13), (.agg [(.int .i64 r20), (.int .i64 r21)]), (.agg [(.int .i64 r26), (.int .i64 r27)]), (.int .i64 r19), (.int .i64 r25)] H32 (by kernel_rfl) ?_
    refine then_norm ?_
    refine w_ret ?_
    refine then_ret ?_
    exact body_ret (vs := [(.bool false)]) _ (by kernel_rfl) rfl h
  · replace h := h.2 ((is_not is_raw).f hc)
    refine w_skip ?_
    refine then_norm ?_
    refine w_seq ?_
    refine w_run [0, 0, 0, 0, 0, 0, 0, 0, 0, 0, 0, 0, 0, 0, 0, 0, 0, 0, 0, 0, 0, 0, 0, 0, 0, 0, 0, 0, 0] ?_
    refine t_done [(.agg [c0, c1]), (.int .i64 from2), (.int .i64 to3), (.bool (((((r8) != 0) || ((r14) != 0)) || (r7 == r13)) && ((((r20) != 0) || ((r26) != 0)) || ((r19) == r25)))), (.agg [c0, c1]), (.agg [c0, .empty]), (.bool (!r31)), (.agg [(.int .i64 r8), (.int .i64 r9)]), (.agg [(.int .i64 r14), (.int .i64 r15)]), (.bool r7), (.bool r13), (.agg [(.int .i64 r20), (.int .i64 r21)]), (.agg [(.int .i64 r26), (.int .i64 r27)]), (.int .i64 r19), (.int .i64 r25)] H32 (by kernel_rfl) ?_
    refine then_norm ?_
    refine w_ret ?_
    exact body_ret (vs := [(.bool (((((r8) != 0) || ((r14) != 0)) || (r7 == r13)) && ((((r20) != 0) || ((r26) != 0)) || ((r19) == r25))))]) _ (by kernel_rfl) rfl h

-- LcalendarExample
def rf_LcalendarExample (ncalendar_Open ncalendar_Next ncalendar_Worked ncalendar_Add : Nat) : RFunc := ⟨0, 10, [.var 0],
 ((.seq (.ops [⟨.move (.k (.bool false)), none, (some 0), true⟩])
 ((.seq (.ops [⟨.build [.int .i64 0, .int .i64 0, .int .i64 0] [(0, 1, (.k (.int .i64 0))), (1, 1, (.k (.int .i64 60))), (2, 1, (.k (.int .i64 120)))], none, none, true⟩, ⟨.buildSlice 3 [.int .i64 0, .int .i64 0, .int .i64 0] [(0, 3, (.loc 0))] 1, none, none, true⟩, ⟨.build [.empty, .empty] [(0, 1, (.loc 1))], none, none, true⟩, ⟨.tomb 1 (.k (.agg [.empty, .empty])), none, (some 1), true⟩, ⟨.upd 2 0 (.loc 3) (.loc 2), none, (some 1), true⟩])
 ((.seq (.ops [⟨.field 0 (some 2) (.var 1), none, none, true⟩, ⟨.callS ncalendar_Open [(.loc 0), (.k (.int .i64 60))], none, none, true⟩, ⟨.move (.loc 1), none, none, true⟩, ⟨.extract (.loc 2) 0, none, none, true⟩, ⟨.extract (.loc 2) 1, none, none, true⟩, ⟨.tomb 1 (.k (.agg [.int .i64 0, .int .i64 0])), none, (some 6), true⟩, ⟨.move (.loc 3), none, (some 2), true⟩, ⟨.upd 2 0 (.loc 5) (.loc 4), none, (some 6), true⟩])
 ((.seq (.ops [⟨.field 0 (some 2) (.var 1), none, none, true⟩, ⟨.callS ncalendar_Next [(.loc 0), (.k (.int .i64 120))], none, none, true⟩, ⟨.move (.loc 1), none, none, true⟩, ⟨.extract (.loc 2) 0, none, none, true⟩, ⟨.extract (.loc 2) 1, none, none, true⟩, ⟨.tomb 1 (.k (.agg [.int .i64 0, .int .i64 0])), none, (some 7), true⟩, ⟨.move (.loc 3), none, (some 3), true⟩, ⟨.upd 2 0 (.loc 5) (.loc 4), none, (some 7), true⟩])
 ((.seq (.ops [⟨.field 0 (some 2) (.var 1), none, none, true⟩, ⟨.callS ncalendar_Worked [(.loc 0), (.k (.int .i64 0)), (.k (.int .i64 100))], none, none, true⟩, ⟨.move (.loc 1), none, none, true⟩, ⟨.extract (.loc 2) 0, none, none, true⟩, ⟨.extract (.loc 2) 1, none, none, true⟩, ⟨.tomb 1 (.k (.agg [.int .i64 0, .int .i64 0])), none, (some 8), true⟩, ⟨.move (.loc 3), none, (some 4), true⟩, ⟨.upd 2 0 (.loc 5) (.loc 4), none, (some 8), true⟩])
 ((.seq (.ops [⟨.field 0 (some 2) (.var 1), none, none, true⟩, ⟨.callS ncalendar_Add [(.loc 0), (.k (.int .i64 0)), (.k (.int .i64 10))], none, none, true⟩, ⟨.move (.loc 1), none, none, true⟩, ⟨.extract (.loc 2) 0, none, none, true⟩, ⟨.extract (.loc 2) 1, none, none, true⟩, ⟨.tomb 1 (.k (.agg [.int .i64 0, .int .i64 0])), none, (some 9), true⟩, ⟨.move (.loc 3), none, (some 5), true⟩, ⟨.upd 2 0 (.loc 5) (.loc 4), none, (some 9), true⟩])
 ((.seq (.ops [⟨.move (.var 2), none, none, true⟩, ⟨.move (.loc 0), none, none, true⟩, ⟨.move (.var 3), none, none, true⟩, ⟨.bin .eql .no (.loc 2) (.k (.int .i64 10140)), none, none, true⟩, ⟨.pick (.loc 1) (.loc 3) (.k (.bool false)), none, none, true⟩, ⟨.move (.loc 4), none, none, true⟩, ⟨.move (.var 4), none, none, true⟩, ⟨.bin .eql .no (.loc 6) (.k (.int .i64 40)), none, none, true⟩, ⟨.pick (.loc 5) (.loc 7) (.k (.bool false)), none, none, true⟩, ⟨.move (.loc 8), none, none, true⟩, ⟨.move (.var 5), none, none, true⟩, ⟨.bin .eql .no (.loc 10) (.k (.int .i64 70)), none, none, true⟩, ⟨.pick (.loc 9) (.loc 11) (.k (.bool false)), none, none, true⟩, ⟨.move (.loc 12), none, none, true⟩, ⟨.field 0 none (.var 6), none, none, true⟩, ⟨.field 0 none (.var 6), none, none, true⟩, ⟨.bin .eql .no (.loc 15) (.k (.int .i64 0)), none, none, true⟩, ⟨.pick (.loc 13) (.loc 16) (.k (.bool false)), none, none, true⟩, ⟨.move (.loc 17), none, none, true⟩, ⟨.field 0 none (.var 7), none, none, true⟩, ⟨.field 0 none (.var 7), none, none, true⟩, ⟨.bin .eql .no (.loc 20) (.k (.int .i64 0)), none, none, true⟩, ⟨.pick (.loc 18) (.loc 21) (.k (.bool false)), none, none, true⟩, ⟨.move (.loc 22), none, none, true⟩, ⟨.field 0 none (.var 8), none, none, true⟩, ⟨.field 0 none (.var 8), none, none, true⟩, ⟨.bin .eql .no (.loc 25) (.k (.int .i64 0)), none, none, true⟩, ⟨.pick (.loc 23) (.loc 26) (.k (.bool false)), none, none, true⟩, ⟨.move (.loc 27), none, none, true⟩, ⟨.field 0 none (.var 9), none, none, true⟩, ⟨.field 0 none (.var 9), none, none, true⟩, ⟨.bin .eql .no (.loc 30) (.k (.int .i64 0)), none, none, true⟩, ⟨.pick (.loc 28) (.loc 31) (.k (.bool false)), none, none, true⟩, ⟨.move (.loc 32), none, (some 0), true⟩])
 (.ret)))))))))))))))⟩
theorem v_LcalendarExample {F : Nat → Option RFunc} {me ncalendar_Open ncalendar_Next ncalendar_Worked ncalendar_Add : Nat} (hF : F me = some (rf_LcalendarExample ncalendar_Open ncalendar_Next ncalendar_Worked ncalendar_Add)) {fl : Nat} {H : Heap} {Q : AV → Heap → Prop} 
  (h : ∀ (b0 : Nat) (H1 : Heap), NewB H 3 [(.int .i64 0), (.int .i64 60), (.int .i64 120)] b0 H1 → ∀ (H2 : Heap), Dead1 H1 1 H2 → Ret F fl ncalendar_Open [(.agg [(.slice b0 0 1 (some 1)), .empty]), (.int .i64 60)] H2 (fun v7 H6 => ∃ (r3 : Bool) (r4 : Int) (r5 : Int), v7 = (.tuple [(.bool r3), (.agg [(.int .i64 r4), (.int .i64 r5)])]) ∧ ∀ (H8 : Heap), Dead1 H6 1 H8 → Ret F fl ncalendar_Next [(.agg [(.slice b0 0 1 (some 1)), .empty]), (.int .i64 120)] H8 (fun v13 H12 => ∃ (r9 : Int) (r10 : Int) (r11 : Int), v13 = (.tuple [(.int .i64 r9), (.agg [(.int .i64 r10), (.int .i64 r11)])]) ∧ ∀ (H14 : Heap), Dead1 H12 1 H14 → Ret F fl ncalendar_Worked [(.agg [(.slice b0 0 1 (some 1)), .empty]), (.int .i64 0), (.int .i64 100)] H14 (fun v19 H18 => ∃ (r15 : Int) (r16 : Int) (r17 : Int), v19 = (.tuple [(.int .i64 r15), (.agg [(.int .i64 r16), (.int .i64 r17)])]) ∧ ∀ (H20 : Heap), Dead1 H18 1 H20 → Ret F fl ncalendar_Add [(.agg [(.slice b0 0 1 (some 1)), .empty]), (.int .i64 0), (.int .i64 10)] H20 (fun v25 H24 => ∃ (r21 : Int) (r22 : Int) (r23 : Int), v25 = (.tuple [(.int .i64 r21), (.agg [(.int .i64 r22), (.int .i64 r23)])]) ∧ ∀ (H26 : Heap), Dead1 H24 1 H26 → Q (.bool (((((((r3 && ((r9) == 10140)) && ((r15) == 40)) && ((r21) == 70)) && ((r4) == 0)) && ((r10) == 0)) && ((r16) == 0)) && ((r22) == 0))) H26))))) : Ret F fl me [] H Q := by
  refine ret_intro hF rfl ?_
  refine w_seq ?_
  refine w_run [0] ?_
  refine t_done [(.bool false), .undef, .undef, .undef, .undef, .undef, .undef, .undef, .undef, .undef] H (by kernel_rfl) ?_
  refine then_norm ?_
  refine w_seq ?_
  refine w_run [1, 1, 1, 1, 1] ?_
  refine t_build true [(.int .i64 0), (.int .i64 0), (.int .i64 0)] [(0, 1, .loc 0), (1, 1, .loc 1), (2, 1, .loc 2)] [(.int .i64 0), (.int .i64 60), (.int .i64 120)] [(.int .i64 0), (.int .i64 60), (.int .i64 120)] H (by kernel_rfl) (fill_c (vs := [(.int .i64 0)]) (size := 1) rfl (by kernel_rfl) (by kernel_rfl) (fill_c (vs := [(.int .i64 60)]) (size := 1) rfl (by kernel_rfl) (by kernel_rfl) (fill_c (vs := [(.int .i64 120)]) (size := 1) rfl (by kernel_rfl) (by kernel_rfl) (by kernel_rfl)))) ?_
  obtain ⟨b0, H1, hb⟩ : ∃ b H', NewB H 3 [(.int .i64 0), (.int .i64 60), (.int .i64 120)] b H' := ⟨_, _, rfl, rfl⟩
  replace h := h b0 H1 hb
  refine t_bs true 3 [(.int .i64 0), (.int .i64 0), (.int .i64 0)] [(0, 3, .loc 0)] 1 [(.agg [(.int .i64 0), (.int .i64 60), (.int .i64 120)])] [(.int .i64 0), (.int .i64 60), (.int .i64 120)] b0 H1 H (by kernel_rfl) (fill_c (vs := [(.int .i64 0), (.int .i64 60), (.int .i64 120)]) (size := 3) rfl (by kernel_rfl) (by kernel_rfl) (by kernel_rfl)) hb ?_
  refine t_build true [.empty, .empty] [(0, 1, .loc 0)] [(.slice b0 0 1 (some 1))] [(.slice b0 0 1 (some 1)), .empty] H1 (by kernel_rfl) (fill_c (vs := [(.slice b0 0 1 (some 1))]) (size := 1) rfl (by kernel_rfl) (by kernel_rfl) (by kernel_rfl)) ?_
  obtain ⟨H2, hb⟩ : ∃ H', Dead1 H1 1 H' := ⟨_, ⟨rfl⟩⟩
  replace h := h H2 hb
  refine t_tomb true 1 (.agg [.empty, .empty]) [.empty, .empty] H2 H1 (by kernel_rfl) rfl hb ?_
  refine t_upd true 2 0 [.empty, .empty] (.agg [(.slice b0 0 1 (some 1)), .empty]) [(.slice b0 0 1 (some 1)), .empty] [(.slice b0 0 1 (some 1)), .empty] H2 (by kernel_rfl) rfl (all_c rfl (all_c rfl all_n)) ⟨rfl, Nat.le_of_ble_eq_true (by kernel_rfl), rfl⟩ ?_
  refine t_done [(.bool false), (.agg [(.slice b0 0 1 (some 1)), .empty]), .undef, .undef, .undef, .undef, .undef, .undef, .undef, .undef] H2 (by kernel_rfl) ?_
  refine then_norm ?_
  refine w_seq ?_
  refine w_run [0, 1, 0, 0, 0, 1, 0, 1] ?_
  refine t_call true ncalendar_Open [(.agg [(.slice b0 0 1 (some 1)), .empty]), (.int .i64 60)] H2 (by kernel_rfl) h ?_
  clear h
  rintro _ H6 ⟨r3, r4, r5, rfl, h⟩
  obtain ⟨H8, hb⟩ : ∃ H', Dead1 H6 1 H' := ⟨_, ⟨rfl⟩⟩
  replace h := h H8 hb
  refine t_tomb true 1 (.agg [(.int .i64 0), (.int .i64 0)]) [(.int .i64 0), (.int .i64 0)] H8 H6 (by kernel_rfl) rfl hb ?_
  refine t_upd true 2 0 [(.int .i64 0), (.int .i64 0)] (.agg [(.int .i64 r4), (.int .i64 r5)]) [(.int .i64 r4), (.int .i64 r5)] [(.int .i64 r4), (.int .i64 r5)] H8 (by kernel_rfl) rfl (all_c rfl (all_c rfl all_n)) ⟨rfl, Nat.le_of_ble_eq_true (by kernel_rfl), rfl⟩ ?_
  refine t_done [(.bool false), (.agg [(.slice b0 0 1 (some 1)), .empty]), (.bool r3), .undef, .undef, .undef, (.agg [(.int .i64 r4), (.int .i64 r5)]), .undef, .undef, .undef] H8 (by kernel_rfl) ?_
  refine then_norm ?_
  refine w_seq ?_
  refine w_run [0, 1, 0, 0, 0, 1, 0, 1] ?_
  refine t_call true ncalendar_Next [(.agg [(.slice b0 0 1 (some 1)), .empty]), (.int .i64 120)] H8 (by kernel_rfl) h ?_
  clear h
  rintro _ H12 ⟨r9, r10, r11, rfl, h⟩
  obtain ⟨H14, hb⟩ : ∃ H', Dead1 H12 1 H' := ⟨_, ⟨rfl⟩⟩
  replace h := h H14 hb
  refine t_tomb true 1 (.agg [(.int .i64 0), (.int .i64 0)]) [(.int .i64 0), (.int .i64 0)] H14 H12 (by kernel_rfl) rfl hb ?_
  refine t_upd true 2 0 [(.int .i64 0), (.int .i64 0)] (.agg [(.int .i64 r10), (.int .i64 r11)]) [(.int .i64 r10), (.int .i64 r11)] [(.int .i64 r10), (.int .i64 r11)] H14 (by kernel_rfl) rfl (all_c rfl (all_c rfl all_n)) ⟨rfl, Nat.le_of_ble_eq_true (by kernel_rfl), rfl⟩ ?_
  refine t_done [(.bool false), (.agg [(.slice b0 0 1 (some 1)), .empty]), (.bool r3), (.int .i64 r9), .undef, .undef, (.agg [(.int .i64 r4), (.int .i64 r5)]), (.agg [(.int .i64 r10), (.int .i64 r11)]), .undef, .undef] H14 (by kernel_rfl) ?_
  refine then_norm ?_
  refine w_seq ?_
  refine w_run [0, 1, 0, 0, 0, 1, 0, 1] ?_
  refine t_call true ncalendar_Worked [(.agg [(.slice b0 0 1 (some 1)), .empty]), (.int .i64 0), (.int .i64 100)] H14 (by kernel_rfl) h ?_
  clear h
  rintro _ H18 ⟨r15, r16, r17, rfl, h⟩
  obtain ⟨H20, hb⟩ : ∃ H', Dead1 H18 1 H' := ⟨_, ⟨rfl⟩⟩
  replace h := h H20 hb
  refine t_tomb true 1 (.agg [(.int .i64 0), (.int .i64 0)]) [(.int .i64 0), (.int .i64 0)] H20 H18 (by kernel_rfl) rfl hb ?_
  refine t_upd true 2 0 [(.int .i64 0), (.int .i64 0)] (.agg [(.int .i64 r16), (.int .i64 r17)]) [(.int .i64 r16), (.int .i64 r17)] [(.int .i64 r16), (.int .i64 r17)] H20 (by kernel_rfl) rfl (all_c rfl (all_c rfl all_n)) ⟨rfl, Nat.le_of_ble_eq_true (by kernel_rfl), rfl⟩ ?_
  refine t_done [(.bool false), (.agg [(.slice b0 0 1 (some 1)), .empty]), (.bool r3), (.int .i64 r9), (.int .i64 r15), .undef, (.agg [(.int .i64 r4), (.int .i64 r5)]), (.agg [(.int .i64 r10), (.int .i64 r11)]), (.agg [(.int .i64 r16), (.int .i64 r17)]), .undef] H20 (by kernel_rfl) ?_
  refine then_norm ?_
  refine w_seq ?_
  refine w_run [0, 1, 0, 0, 0, 1, 0, 1] ?_
  refine t_call true ncalendar_Add [(.agg [(.slice b0 0 1 (some 1)), .empty]), (.int .i64 0), (.int .i64 10)] H20 (by kernel_rfl) h ?_
  clear h
  rintro _ H24 ⟨r21, r22, r23, rfl, h⟩
  obtain ⟨H26, hb⟩ : ∃ H', Dead1 H24 1 H' := ⟨_, ⟨rfl⟩⟩
  replace h := h H26 hb
  refine t_tomb true 1 (.agg [(.int .i64 0), (.int .i64 0)]) [(.int .i64 0), (.int .i64 0)] H26 H24 (by kernel_rfl) rfl hb ?_
  refine t_upd true 2 0 [(.int .i64 0), (.int .i64 0)] (.agg [(.int .i64 r22), (.int .i64 r23)]) [(.int .i64 r22), (.int .i64 r23)] [(.int .i64 r22), (.int .i64 r23)] H26 (by kernel_rfl) rfl (all_c rfl (all_c rfl all_n)) ⟨rfl, Nat.le_of_ble_eq_true (by kernel_rfl), rfl⟩ ?_
  refine t_done [(.bool false), (.agg [(.slice b0 0 1 (some 1)), .empty]), (.bool r3), (.int .i64 r9), (.int .i64 r15), (.int .i64 r21), (.agg [(.int .i64 r4), (.int .i64 r5)]), (.agg [(.int .i64 r10), (.int .i64 r11)]), (.agg [(.int .i64 r16), (.int .i64 r17)]), (.agg [(.int .i64 r22), (.int .i64 r23)])] H26 (by kernel_rfl) ?_
  refine then_norm ?_
  refine w_seq ?_
  refine w_run [0, 0, 0, 0, 0, 0, 0, 0, 0, 0, 0, 0, 0, 0, 0, 0, 0, 0, 0, 0, 0, 0, 0, 0, 0, 0, 0, 0, 0, 0, 0, 0, 0, 0] ?_
  refine t_done [(.bool (((((((r3 && ((r9) == 10140)) && ((r15) == 40)) && ((r21) == 70)) && ((r4) == 0)) && ((r10) == 0)) && ((r16) == 0)) && ((r22) == 0))), (.agg [(.slice b0 0 1 (some 1)), .empty]), (.bool r3), (.int .i64 r9), (.int .i64 r15), (.int .i64 r21), (.agg [(.int .i64 r4), (.int .i64 r5)]), (.agg [(.int .i64 r10), (.int .i64 r11)]), (.agg [(.int .i64 r16), (.int .i64 r17)]), (.agg [(.int .i64 r22), (.int .i64 r23)])] H26 (by kernel_rfl) ?_
  refine then_norm ?_
  refine w_ret ?_
  exact body_ret (vs := [(.bool (((((((r3 && ((r9) == 10140)) && ((r15) == 40)) && ((r21) == 70)) && ((r4) == 0)) && ((r10) == 0)) && ((r16) == 0)) && ((r22) == 0)))]) _ (by kernel_rfl) rfl h

-- LtimeFault
def rf_LtimeFault (nFFault : Nat) : RFunc := ⟨2, 5, [.part 2 (some 2)],
 ((.seq (.ops [⟨.tomb 1 (.var 0), none, (some 3), true⟩, ⟨.tomb 1 (.k (.agg [.int .i64 0, .int .i64 0])), none, (some 2), true⟩])
 ((.seq ((.seq (.ops [⟨.field 0 none (.var 3), none, none, true⟩, ⟨.field 0 none (.var 3), none, none, true⟩, ⟨.bin .eql .no (.loc 1) (.k (.int .i64 0)), none, none, true⟩, ⟨.move (.loc 2), none, none, true⟩, ⟨.move (.var 1), none, none, true⟩, ⟨.bin .lss .no (.loc 4) (.k (.int .i64 0)), none, none, true⟩, ⟨.move (.loc 5), none, none, true⟩, ⟨.move (.var 1), none, none, true⟩, ⟨.bin .gtr .no (.loc 7) (.k (.int .i64 10000000)), none, none, true⟩, ⟨.pick (.loc 6) (.k (.bool true)) (.loc 8), none, none, true⟩, ⟨.pick (.loc 3) (.loc 9) (.k (.bool false)), none, (some 4), true⟩])
 (.cond (.var 4) ((.seq (.ops [⟨.callS nFFault [(.k (.int .i64 3)), (.k (.int .i64 (-20)))], none, none, true⟩, ⟨.upd 2 0 (.var 2) (.loc 0), none, (some 2), true⟩])
 (.ret))) (.skip))))
 ((.seq (.ops [⟨.field 0 (some 2) (.var 3), none, none, true⟩, ⟨.upd 2 0 (.var 2) (.loc 0), none, (some 2), true⟩])
 (.ret)))))))⟩
theorem v_LtimeFault {F : Nat → Option RFunc} {me nFFault : Nat} (hF : F me = some (rf_LtimeFault nFFault)) {fl : Nat} {H : Heap} {Q : AV → Heap → Prop} (v0 : Int) (v1 : Int) (time2 : Int)
  (h : ∀ (H3 : Heap), Dead1 H 1 H3 → ∀ (H4 : Heap), Dead1 H3 1 H4 → ((((v0 = 0) ∧ (((time2 < 0) ∨ (time2 > 10000000))))) → Ret F fl nFFault [(.int .i64 3), (.int .i64 (-20))] H4 (fun v8 H7 => ∃ (r5 : Int) (r6 : Int), v8 = (.agg [(.int .i64 r5), (.int .i64 r6)]) ∧ Q (.agg [(.int .i64 r5), (.int .i64 r6)]) H7)) ∧ (¬(((v0 = 0) ∧ (((time2 < 0) ∨ (time2 > 10000000))))) → Q (.agg [(.int .i64 v0), (.int .i64 v1)]) H4)) : Ret F fl me [(.agg [(.int .i64 v0), (.int .i64 v1)]), (.int .i64 time2)] H Q := by
  refine ret_intro hF rfl ?_
  refine w_seq ?_
  refine w_run [1, 1] ?_
  obtain ⟨H3, hb⟩ : ∃ H', Dead1 H 1 H' := ⟨_, ⟨rfl⟩⟩
  replace h := h H3 hb
  refine t_tomb true 1 (.agg [(.int .i64 v0), (.int .i64 v1)]) [(.int .i64 v0), (.int .i64 v1)] H3 H (by kernel_rfl) rfl hb ?_
  obtain ⟨H4, hb⟩ : ∃ H', Dead1 H3 1 H' := ⟨_, ⟨rfl⟩⟩
  replace h := h H4 hb
  refine t_tomb true 1 (.agg [(.int .i64 0), (.int .i64 0)]) [(.int .i64 0), (.int .i64 0)] H4 H3 (by kernel_rfl) rfl hb ?_
  refine t_done [(.agg [(.int .i64 v0), (.int .i64 v1)]), (.int .i64 time2), (.agg [(.int .i64 0), (.int .i64 0)]), (.agg [(.int .i64 v0), (.int .i64 v1)]), .undef] H4 (by kernel_rfl) ?_
  refine then_norm ?_
  refine w_seq ?_
  refine w_seq ?_
  refine w_run [0, 0, 0, 0, 0, 0, 0, 0, 0, 0, 0] ?_
  refine t_done [(.agg [(.int .i64 v0), (.int .i64 v1)]), (.int .i64 time2), (.agg [(.int .i64 0), (.int .i64 0)]), (.agg [(.int .i64 v0), (.int .i64 v1)]), (.bool (((v0) == 0) && ((decide (time2 < 0)) || (decide (time2 > 10000000)))))] H4 (by kernel_rfl) ?_
  refine then_norm ?_
  refine w_cond (t := (((v0) == 0) && ((decide (time2 < 0)) || (decide (time2 > 10000000))))) rfl (fun hc => ?_) (fun hc => ?_)
  · replace h := h.1 ((is_and is_eq (is_or is_dec is_dec)).t hc)
    refine w_seq ?_
    refine w_run [1, 1] ?_
    refine t_call true nFFault [(.int .i64 3), (.int .i64 (-20))] H4 (by kernel_rfl) h ?_
    clear h
    rintro _ H7 ⟨r5, r6, rfl, h⟩
    refine t_upd true 2 0 [(.int .i64 0), (.int .i64 0)] (.agg [(.int .i64 r5), (.int .i64 r6)]) [(.int .i64 r5), (.int .i64 r6)] [(.int .i64 r5), (.int .i64 r6)] H7 (by kernel_rfl) rfl (all_c rfl (all_c rfl all_n)) ⟨rfl, Nat.le_of_ble_eq_true (by kernel_rfl), rfl⟩ ?_
    refine t_done [(.agg [(.int .i64 v0), (.int .i64 v1)]), (.int .i64 time2), (.agg [(.int .i64 r5), (.int .i64 r6)]), (.agg [(.int .i64 v0), (.int .i64 v1)]), (.bool (((v0) == 0) && ((decide (time2 < 0)) || (decide (time2 > 10000000)))))] H7 (by kernel_rfl) ?_
    refine then_norm ?_
    refine w_ret ?_
    refine then_ret ?_
    exact body_ret (vs := [(.agg [(.int .i64 r5), (.int .i64 r6)])]) _ (by kernel_rfl) rfl h
  · replace h := h.2 ((is_and is_eq (is_or is_dec is_dec)).f hc)
    refine w_skip ?_
    refine then_norm ?_
    refine w_seq ?_
    refine w_run [0, 1] ?_
    refine t_upd true 2 0 [(.int .i64 0), (.int .i64 0)] (.agg [(.int .i64 v0), (.int .i64 v1)]) [(.int .i64 v0), (.int .i64 v1)] [(.int .i64 v0), (.int .i64 v1)] H4 (by kernel_rfl) rfl (all_c rfl (all_c rfl all_n)) ⟨rfl, Nat.le_of_ble_eq_true (by kernel_rfl), rfl⟩ ?_
    refine t_done [(.agg [(.int .i64 v0), (.int .i64 v1)]), (.int .i64 time2), (.agg [(.int .i64 v0), (.int .i64 v1)]), (.agg [(.int .i64 v0), (.int .i64 v1)]), (.bool (((v0) == 0) && ((decide (time2 < 0)) || (decide (time2 > 10000000)))))] H4 (by kernel_rfl) ?_
    refine then_norm ?_
    refine w_ret ?_
    exact body_ret (vs := [(.agg [(.int .i64 v0), (.int .i64 v1)])]) _ (by kernel_rfl) rfl h

end Go.RM
