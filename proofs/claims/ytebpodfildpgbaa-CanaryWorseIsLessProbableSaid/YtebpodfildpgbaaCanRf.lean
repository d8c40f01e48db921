import Derived.Test.YtebpodfildpgbaaRmUng
import Derived.Test.YtebpodfildpgbaaRmStep
import Derived.Test.YtebpodfildpgbaaRows
import Derived.KernelRfl
namespace Go.Proofs.Ytebpodfildpgbaa
open Go.RM
-- 3 changeforge/changeforgelaw8.CanaryFunctionsMatchSpec vars [0, 1, 2, 3, 8, 4, 5, 65, 16, 71, 11, 13, 9, 10, 12, 91, 18, 17, 112, 19, 133, 140, 160, 164, 20, 171, 174, 178, 15, 14, 208, 21, 213, 224] names [base, other, need, perMille, base, other, need, perMille, , a, b, e1, d, e2, t, e3, v, fewer, all, good, w, k, , , , , , , , , , , , , , , , , , ]
def rf3 : RFunc := ⟨4, 34, [.var 4],
 ((.seq (.ops [⟨.tomb 1 (.var 0), none, (some 5), true⟩,
     ⟨.tomb 1 (.var 1), none, (some 6), true⟩,
     ⟨.move (.k (.bool false)), none, (some 4), true⟩])
  ((.seq (.ops [⟨.field 0 (some 2) (.var 5), none, none, true⟩,
      ⟨.field 0 (some 2) (.var 6), none, none, true⟩,
      ⟨.callS 8 [.loc 0, .loc 1], none, none, true⟩,
      ⟨.move (.loc 2), none, none, true⟩,
      ⟨.extract (.loc 3) 0, none, none, true⟩,
      ⟨.extract (.loc 3) 1, none, none, true⟩,
      ⟨.extract (.loc 3) 2, none, none, true⟩,
      ⟨.tomb 1 (.k (.agg [.int .i64 0, .int .i64 0])), none, (some 10), true⟩,
      ⟨.move (.loc 4), none, (some 12), true⟩,
      ⟨.move (.loc 5), none, (some 13), true⟩,
      ⟨.upd 2 0 (.loc 7) (.loc 6), none, (some 10), true⟩])
   ((.seq (.ops [⟨.field 0 (some 2) (.var 5), none, none, true⟩,
       ⟨.field 0 (some 2) (.var 6), none, none, true⟩,
       ⟨.move (.var 2), none, none, true⟩,
       ⟨.move (.var 3), none, none, true⟩,
       ⟨.callS 9 [.loc 0, .loc 1, .loc 2, .loc 3], none, none, true⟩,
       ⟨.move (.loc 4), none, none, true⟩,
       ⟨.extract (.loc 5) 0, none, none, true⟩,
       ⟨.extract (.loc 5) 1, none, none, true⟩,
       ⟨.tomb 1 (.k (.agg [.int .i64 0, .int .i64 0])), none, (some 11), true⟩,
       ⟨.move (.loc 6), none, (some 14), true⟩,
       ⟨.upd 2 0 (.loc 8) (.loc 7), none, (some 11), true⟩])
    ((.seq (.ops [⟨.field 0 (some 2) (.var 5), none, none, true⟩,
        ⟨.move (.var 2), none, none, true⟩,
        ⟨.move (.var 3), none, none, true⟩,
        ⟨.callS 10 [.loc 0, .loc 1, .loc 2], none, none, true⟩,
        ⟨.move (.loc 3), none, none, true⟩,
        ⟨.extract (.loc 4) 0, none, none, true⟩,
        ⟨.extract (.loc 4) 1, none, none, true⟩,
        ⟨.tomb 1 (.k (.agg [.int .i64 0, .int .i64 0])), none, (some 28), true⟩,
        ⟨.move (.loc 5), none, (some 29), true⟩,
        ⟨.upd 2 0 (.loc 7) (.loc 6), none, (some 28), true⟩])
     ((.seq ((.seq (.ops [⟨.callS 11 [], none, none, true⟩,
          ⟨.un .not (.loc 0), none, none, true⟩,
          ⟨.move (.loc 1), none, none, true⟩,
          ⟨.field 0 (some 2) (.var 5), none, none, false⟩,
          ⟨.callS 12 [.loc 3], (some (2, false)), none, false⟩,
          ⟨.field 0 none (.loc 4), (some (2, false)), none, false⟩,
          ⟨.bin .eql .no (.loc 5) (.k (.int .i64 0)), (some (2, false)), none, false⟩,
          ⟨.field 0 (some 2) (.var 5), none, none, false⟩,
          ⟨.callS 13 [.loc 7], (some (2, false)), none, true⟩,
          ⟨.bin .neq .bool (.loc 6) (.loc 8), (some (2, false)), none, true⟩,
          ⟨.pick (.loc 2) (.k (.bool true)) (.loc 9), none, none, true⟩,
          ⟨.move (.loc 10), none, none, true⟩,
          ⟨.field 0 (some 2) (.var 5), none, none, true⟩,
          ⟨.callS 13 [.loc 12], (some (11, false)), none, true⟩,
          ⟨.un .not (.loc 13), (some (11, false)), none, true⟩,
          ⟨.move (.loc 14), (some (11, false)), none, true⟩,
          ⟨.field 0 (some 2) (.var 5), none, none, true⟩,
          ⟨.callS 12 [.loc 16], (some (15, true)), none, true⟩,
          ⟨.callS 14 [.k (.int .i64 3), .k (.int .i64 (-1))], (some (15, true)), none, true⟩,
          ⟨.bin .neq (.agg [.int, .int]) (.loc 17) (.loc 18), (some (15, true)), none, true⟩,
          ⟨.pick (.loc 15) (.loc 19) (.k (.bool false)), (some (11, false)), none, true⟩,
          ⟨.pick (.loc 11) (.k (.bool true)) (.loc 20), none, (some 7), true⟩])
       (.cond (.var 7)
         ((.seq (.ops [⟨.move (.k (.bool false)), none, (some 4), true⟩])
          (.ret)))
         (.skip))))
      ((.seq (.ops [⟨.field 0 (some 2) (.var 5), none, none, true⟩,
          ⟨.field 0 (some 2) (.var 6), none, none, true⟩,
          ⟨.callS 15 [.loc 0, .loc 1], none, none, true⟩,
          ⟨.tomb 1 (.k (.agg [.int .i64 0, .int .i64 0])), none, (some 8), true⟩,
          ⟨.upd 2 0 (.loc 3) (.loc 2), none, (some 8), true⟩])
       ((.seq ((.seq (.ops [⟨.field 0 none (.var 8), none, none, true⟩,
            ⟨.field 0 none (.var 8), none, none, true⟩,
            ⟨.bin .neq .no (.loc 1) (.k (.int .i64 0)), none, (some 9), true⟩])
         (.cond (.var 9)
           ((.seq (.ops [⟨.field 0 (some 2) (.var 10), none, none, true⟩,
               ⟨.field 0 (some 2) (.var 8), none, none, true⟩,
               ⟨.bin .neq (.agg [.int, .int]) (.loc 0) (.loc 1), none, none, true⟩,
               ⟨.move (.loc 2), none, none, true⟩,
               ⟨.field 0 (some 2) (.var 11), none, none, true⟩,
               ⟨.field 0 (some 2) (.var 8), none, none, true⟩,
               ⟨.bin .neq (.agg [.int, .int]) (.loc 4) (.loc 5), none, none, true⟩,
               ⟨.pick (.loc 3) (.k (.bool true)) (.loc 6), none, none, true⟩,
               ⟨.move (.loc 7), none, none, true⟩,
               ⟨.move (.var 12), none, none, true⟩,
               ⟨.bin .neq .no (.loc 9) (.k (.int .i64 0)), none, none, true⟩,
               ⟨.pick (.loc 8) (.k (.bool true)) (.loc 10), none, none, true⟩,
               ⟨.move (.loc 11), none, none, true⟩,
               ⟨.move (.var 13), none, none, true⟩,
               ⟨.bin .neq .no (.loc 13) (.k (.int .i64 0)), none, none, true⟩,
               ⟨.pick (.loc 12) (.k (.bool true)) (.loc 14), none, none, true⟩,
               ⟨.move (.loc 15), none, none, true⟩,
               ⟨.move (.var 14), none, none, true⟩,
               ⟨.bin .neq .no (.loc 17) (.k (.int .i64 0)), none, none, true⟩,
               ⟨.pick (.loc 16) (.k (.bool true)) (.loc 18), none, (some 15), true⟩])
            (.cond (.var 15)
              ((.seq (.ops [⟨.move (.k (.bool false)), none, (some 4), true⟩])
               (.ret)))
              (.skip))))
           ((.seq (.ops [⟨.field 0 (some 2) (.var 5), none, none, true⟩,
               ⟨.field 0 (some 2) (.var 6), none, none, true⟩,
               ⟨.callS 16 [.loc 0, .loc 1], none, none, true⟩,
               ⟨.move (.loc 2), none, none, true⟩,
               ⟨.extract (.loc 3) 0, none, none, true⟩,
               ⟨.extract (.loc 3) 1, none, none, true⟩,
               ⟨.move (.loc 4), none, (some 17), true⟩,
               ⟨.move (.loc 5), none, (some 16), true⟩])
            ((.seq (.ops [⟨.field 0 none (.var 10), none, none, true⟩,
                ⟨.field 0 none (.var 10), none, none, true⟩,
                ⟨.bin .neq .no (.loc 1) (.k (.int .i64 0)), none, none, true⟩,
                ⟨.move (.loc 2), none, none, true⟩,
                ⟨.move (.var 12), none, none, true⟩,
                ⟨.move (.var 16), none, none, true⟩,
                ⟨.move (.var 17), none, none, true⟩,
                ⟨.bin .sub .no (.loc 5) (.loc 6), none, none, true⟩,
                ⟨.bin .neq .no (.loc 4) (.loc 7), none, none, true⟩,
                ⟨.pick (.loc 3) (.k (.bool true)) (.loc 8), none, none, true⟩,
                ⟨.move (.loc 9), none, none, true⟩,
                ⟨.move (.var 13), none, none, true⟩,
                ⟨.move (.var 16), none, none, true⟩,
                ⟨.bin .neq .no (.loc 11) (.loc 12), none, none, true⟩,
                ⟨.pick (.loc 10) (.k (.bool true)) (.loc 13), none, (some 18), true⟩])
             (.cond (.var 18)
               ((.seq (.ops [⟨.move (.k (.bool false)), none, (some 4), true⟩])
                (.ret)))
               (.skip)))))))))
        ((.seq (.ops [⟨.move (.var 2), none, none, true⟩,
            ⟨.bin .geq .no (.loc 0) (.k (.int .i64 0)), none, none, true⟩,
            ⟨.move (.loc 1), none, none, true⟩,
            ⟨.move (.var 2), none, none, true⟩,
            ⟨.bin .leq .no (.loc 3) (.k (.int .i64 25)), none, none, true⟩,
            ⟨.pick (.loc 2) (.loc 4) (.k (.bool false)), none, none, true⟩,
            ⟨.move (.loc 5), none, none, true⟩,
            ⟨.move (.var 3), none, none, true⟩,
            ⟨.bin .geq .no (.loc 7) (.k (.int .i64 0)), none, none, true⟩,
            ⟨.pick (.loc 6) (.loc 8) (.k (.bool false)), none, none, true⟩,
            ⟨.move (.loc 9), none, none, true⟩,
            ⟨.move (.var 3), none, none, true⟩,
            ⟨.bin .lss .no (.loc 11) (.k (.int .i64 1000)), none, none, true⟩,
            ⟨.pick (.loc 10) (.loc 12) (.k (.bool false)), none, none, true⟩,
            ⟨.move (.loc 13), none, (some 19), true⟩])
         ((.seq ((.seq (.ops [⟨.field 0 none (.var 8), none, none, true⟩,
              ⟨.field 0 none (.var 8), none, none, true⟩,
              ⟨.bin .eql .no (.loc 1) (.k (.int .i64 0)), none, none, true⟩,
              ⟨.move (.loc 2), none, none, true⟩,
              ⟨.move (.var 19), none, none, true⟩,
              ⟨.un .not (.loc 4), none, none, true⟩,
              ⟨.pick (.loc 3) (.loc 5) (.k (.bool false)), none, (some 20), true⟩])
           (.cond (.var 20)
             ((.seq (.ops [⟨.field 0 (some 2) (.var 11), none, none, false⟩,
                 ⟨.callS 14 [.k (.int .i64 3), .k (.int .i64 (-3))], none, none, false⟩,
                 ⟨.bin .neq (.agg [.int, .int]) (.loc 0) (.loc 1), none, none, true⟩,
                 ⟨.move (.loc 2), none, none, true⟩,
                 ⟨.move (.var 14), none, none, true⟩,
                 ⟨.bin .neq .no (.loc 4) (.k (.int .i64 0)), none, none, true⟩,
                 ⟨.pick (.loc 3) (.k (.bool true)) (.loc 5), none, (some 21), true⟩])
              (.cond (.var 21)
                ((.seq (.ops [⟨.move (.k (.bool false)), none, (some 4), true⟩])
                 (.ret)))
                (.skip))))
             (.skip))))
          ((.seq ((.seq (.ops [⟨.field 0 none (.var 8), none, none, true⟩,
               ⟨.field 0 none (.var 8), none, none, true⟩,
               ⟨.bin .eql .no (.loc 1) (.k (.int .i64 0)), none, none, true⟩,
               ⟨.move (.loc 2), none, none, true⟩,
               ⟨.move (.var 19), (some (3, true)), none, true⟩,
               ⟨.pick (.loc 3) (.loc 4) (.k (.bool false)), none, none, true⟩,
               ⟨.move (.loc 5), none, none, true⟩,
               ⟨.field 0 none (.var 11), (some (6, true)), none, true⟩,
               ⟨.field 0 none (.var 11), (some (6, true)), none, true⟩,
               ⟨.bin .neq .no (.loc 8) (.k (.int .i64 0)), (some (6, true)), none, true⟩,
               ⟨.move (.loc 9), (some (6, true)), none, true⟩,
               ⟨.move (.var 14), (some (10, false)), none, true⟩,
               ⟨.field 0 (some 2) (.var 5), (some (10, false)), none, true⟩,
               ⟨.field 0 (some 2) (.var 6), (some (10, false)), none, true⟩,
               ⟨.move (.var 2), (some (10, false)), none, true⟩,
               ⟨.move (.var 3), (some (10, false)), none, true⟩,
               ⟨.callS 17 [.loc 12, .loc 13, .loc 14, .loc 15], (some (10, false)), none, true⟩,
               ⟨.bin .neq .no (.loc 11) (.loc 16), (some (10, false)), none, true⟩,
               ⟨.pick (.loc 10) (.k (.bool true)) (.loc 17), (some (6, true)), none, true⟩,
               ⟨.pick (.loc 6) (.loc 18) (.k (.bool false)), none, (some 22), true⟩])
            (.cond (.var 22)
              ((.seq (.ops [⟨.move (.k (.bool false)), none, (some 4), true⟩])
               (.ret)))
              (.skip))))
           ((.seq (.ops [⟨.build [.int .i64 0, .int .i64 0] [], none, none, true⟩,
               ⟨.tomb 1 (.k (.agg [.int .i64 0, .int .i64 0])), none, (some 24), true⟩,
               ⟨.upd 2 0 (.loc 1) (.loc 0), none, (some 24), true⟩])
            ((.seq ((.seq (.ops [⟨.field 0 (some 2) (.var 5), none, none, true⟩,
                 ⟨.callS 13 [.loc 0], none, none, true⟩,
                 ⟨.un .not (.loc 1), none, (some 23), true⟩])
              (.cond (.var 23)
                (.ops [⟨.callS 14 [.k (.int .i64 3), .k (.int .i64 (-1))], none, none, true⟩,
                   ⟨.upd 2 0 (.var 24) (.loc 0), none, (some 24), true⟩])
                ((.seq (.ops [⟨.move (.var 2), none, none, true⟩,
                    ⟨.bin .lss .no (.loc 0) (.k (.int .i64 0)), none, none, true⟩,
                    ⟨.move (.loc 1), none, none, true⟩,
                    ⟨.move (.var 2), none, none, true⟩,
                    ⟨.bin .gtr .no (.loc 3) (.k (.int .i64 25)), none, none, true⟩,
                    ⟨.pick (.loc 2) (.k (.bool true)) (.loc 4), none, (some 25), true⟩])
                 (.cond (.var 25)
                   (.ops [⟨.callS 14 [.k (.int .i64 3), .k (.int .i64 (-2))], none, none, true⟩,
                      ⟨.upd 2 0 (.var 24) (.loc 0), none, (some 24), true⟩])
                   ((.seq (.ops [⟨.move (.var 19), none, none, true⟩,
                       ⟨.un .not (.loc 0), none, (some 26), true⟩])
                    (.cond (.var 26)
                      (.ops [⟨.callS 14 [.k (.int .i64 3), .k (.int .i64 (-3))], none, none, true⟩,
                         ⟨.upd 2 0 (.var 24) (.loc 0), none, (some 24), true⟩])
                      (.skip))))))))))
             ((.seq ((.seq (.ops [⟨.field 0 none (.var 24), none, none, true⟩,
                  ⟨.field 0 none (.var 24), none, none, true⟩,
                  ⟨.bin .neq .no (.loc 1) (.k (.int .i64 0)), none, (some 27), true⟩])
               (.cond (.var 27)
                 ((.seq (.ops [⟨.field 0 (some 2) (.var 28), none, none, true⟩,
                     ⟨.field 0 (some 2) (.var 24), none, none, true⟩,
                     ⟨.bin .eql (.agg [.int, .int]) (.loc 0) (.loc 1), none, none, true⟩,
                     ⟨.move (.loc 2), none, none, true⟩,
                     ⟨.move (.var 29), none, none, true⟩,
                     ⟨.bin .eql .no (.loc 4) (.k (.int .i64 0)), none, none, true⟩,
                     ⟨.pick (.loc 3) (.loc 5) (.k (.bool false)), none, none, true⟩,
                     ⟨.move (.loc 6), none, (some 4), true⟩])
                  (.ret)))
                 (.skip))))
              ((.seq ((.seq (.ops [⟨.field 0 none (.var 28), none, none, true⟩,
                   ⟨.field 0 none (.var 28), none, none, true⟩,
                   ⟨.bin .neq .no (.loc 1) (.k (.int .i64 0)), none, none, true⟩,
                   ⟨.move (.loc 2), none, none, true⟩,
                   ⟨.move (.var 29), none, none, true⟩,
                   ⟨.bin .lss .no (.loc 4) (.k (.int .i64 0)), none, none, true⟩,
                   ⟨.pick (.loc 3) (.k (.bool true)) (.loc 5), none, none, true⟩,
                   ⟨.move (.loc 6), none, none, true⟩,
                   ⟨.move (.var 29), none, none, true⟩,
                   ⟨.move (.var 2), none, none, true⟩,
                   ⟨.bin .gtr .no (.loc 8) (.loc 9), none, none, true⟩,
                   ⟨.pick (.loc 7) (.k (.bool true)) (.loc 10), none, none, true⟩,
                   ⟨.move (.loc 11), none, none, true⟩,
                   ⟨.field 0 (some 2) (.var 5), none, none, true⟩,
                   ⟨.move (.var 2), none, none, true⟩,
                   ⟨.move (.var 29), none, none, true⟩,
                   ⟨.bin .sub .no (.loc 14) (.loc 15), none, none, true⟩,
                   ⟨.move (.var 29), none, none, true⟩,
                   ⟨.build [.int .i64 0, .int .i64 0] [(0, 1, (.loc 16)), (1, 1, (.loc 17))], none, none, true⟩,
                   ⟨.move (.var 3), none, none, true⟩,
                   ⟨.callS 17 [.loc 13, .loc 18, .k (.int .i64 0), .loc 19], (some (12, false)), none, true⟩,
                   ⟨.bin .eql .no (.loc 20) (.k (.int .i64 3)), (some (12, false)), none, true⟩,
                   ⟨.pick (.loc 12) (.k (.bool true)) (.loc 21), none, (some 30), true⟩])
                (.cond (.var 30)
                  ((.seq (.ops [⟨.move (.k (.bool false)), none, (some 4), true⟩])
                   (.ret)))
                  (.skip))))
               ((.seq ((.seq (.ops [⟨.move (.var 29), none, none, true⟩,
                    ⟨.bin .add .no (.loc 0) (.k (.int .i64 1)), none, none, true⟩,
                    ⟨.move (.loc 1), none, (some 31), true⟩])
                 (.block 0
                   (.loop
                    ((.seq ((.seq (.ops [⟨.move (.var 31), none, none, true⟩,
                        ⟨.move (.var 2), none, none, true⟩,
                        ⟨.bin .leq .no (.loc 0) (.loc 1), none, (some 32), true⟩])
                     (.cond (.var 32)
                       (.skip)
                       (.exit 0))))
                    ((.seq (.block 1
                       ((.seq (.ops [⟨.field 0 (some 2) (.var 5), none, none, true⟩,
                          ⟨.move (.var 2), none, none, true⟩,
                          ⟨.move (.var 31), none, none, true⟩,
                          ⟨.bin .sub .no (.loc 1) (.loc 2), none, none, true⟩,
                          ⟨.move (.var 31), none, none, true⟩,
                          ⟨.build [.int .i64 0, .int .i64 0] [(0, 1, (.loc 3)), (1, 1, (.loc 4))], none, none, true⟩,
                          ⟨.move (.var 3), none, none, true⟩,
                          ⟨.callS 17 [.loc 0, .loc 5, .k (.int .i64 0), .loc 6], none, none, true⟩,
                          ⟨.bin .neq .no (.loc 7) (.k (.int .i64 3)), none, (some 33), true⟩])
                       (.cond (.var 33)
                         ((.seq (.ops [⟨.move (.k (.bool false)), none, (some 4), true⟩])
                          (.ret)))
                         (.skip)))))
                     (.ops [⟨.move (.var 31), none, none, true⟩,
                        ⟨.bin .add .no (.loc 0) (.k (.int .i64 1)), none, none, true⟩,
                        ⟨.move (.loc 1), none, (some 31), true⟩])))))))))
                ((.seq (.ops [⟨.move (.k (.bool true)), none, (some 4), true⟩])
                 (.ret)))))))))))))))))))))))))))))))))⟩
-- 4 changeforge/changeforgelaw8.CanaryWorseIsLessProbable vars [0, 1, 4, 2, 3, 48, 7, 51, 6, 5, 62, 10, 9, 8, 13, 12, 11] names [base, other, base, other, , a, b, e1, c, d, e2, x, y, e3, , , , , , , , , , , , , , , , , , , , , , , , , , ]
def rf4 : RFunc := ⟨2, 17, [.var 2],
 ((.seq (.ops [⟨.tomb 1 (.var 0), none, (some 3), true⟩,
     ⟨.tomb 1 (.var 1), none, (some 4), true⟩,
     ⟨.move (.k (.bool false)), none, (some 2), true⟩])
  ((.seq (.ops [⟨.field 0 (some 2) (.var 3), none, none, true⟩,
      ⟨.field 0 (some 2) (.var 4), none, none, true⟩,
      ⟨.callS 8 [.loc 0, .loc 1], none, none, true⟩,
      ⟨.move (.loc 2), none, none, true⟩,
      ⟨.extract (.loc 3) 0, none, none, true⟩,
      ⟨.extract (.loc 3) 1, none, none, true⟩,
      ⟨.extract (.loc 3) 2, none, none, true⟩,
      ⟨.tomb 1 (.k (.agg [.int .i64 0, .int .i64 0])), none, (some 6), true⟩,
      ⟨.move (.loc 4), none, (some 9), true⟩,
      ⟨.move (.loc 5), none, (some 8), true⟩,
      ⟨.upd 2 0 (.loc 7) (.loc 6), none, (some 6), true⟩])
   ((.seq (.ops [⟨.field 0 (some 2) (.var 3), none, none, true⟩,
       ⟨.field 0 none (.var 4), none, none, true⟩,
       ⟨.field 0 none (.var 4), none, none, true⟩,
       ⟨.bin .sub .no (.loc 2) (.k (.int .i64 1)), none, none, true⟩,
       ⟨.field 0 none (.var 4), none, none, true⟩,
       ⟨.field 1 none (.var 4), none, none, true⟩,
       ⟨.bin .add .no (.loc 5) (.k (.int .i64 1)), none, none, true⟩,
       ⟨.build [.int .i64 0, .int .i64 0] [(0, 1, (.loc 3)), (1, 1, (.loc 6))], none, none, true⟩,
       ⟨.callS 8 [.loc 0, .loc 7], none, none, true⟩,
       ⟨.move (.loc 8), none, none, true⟩,
       ⟨.extract (.loc 9) 0, none, none, true⟩,
       ⟨.extract (.loc 9) 1, none, none, true⟩,
       ⟨.extract (.loc 9) 2, none, none, true⟩,
       ⟨.tomb 1 (.k (.agg [.int .i64 0, .int .i64 0])), none, (some 11), true⟩,
       ⟨.move (.loc 10), none, (some 13), true⟩,
       ⟨.move (.loc 11), none, (some 12), true⟩,
       ⟨.upd 2 0 (.loc 13) (.loc 12), none, (some 11), true⟩])
    ((.seq (.ops [⟨.field 0 none (.var 3), none, none, true⟩,
        ⟨.field 0 none (.var 3), none, none, true⟩,
        ⟨.bin .sub .no (.loc 1) (.k (.int .i64 1)), none, none, true⟩,
        ⟨.field 0 none (.var 3), none, none, true⟩,
        ⟨.field 1 none (.var 3), none, none, true⟩,
        ⟨.bin .add .no (.loc 4) (.k (.int .i64 1)), none, none, true⟩,
        ⟨.build [.int .i64 0, .int .i64 0] [(0, 1, (.loc 2)), (1, 1, (.loc 5))], none, none, true⟩,
        ⟨.field 0 (some 2) (.var 4), none, none, true⟩,
        ⟨.callS 8 [.loc 6, .loc 7], none, none, true⟩,
        ⟨.move (.loc 8), none, none, true⟩,
        ⟨.extract (.loc 9) 0, none, none, true⟩,
        ⟨.extract (.loc 9) 1, none, none, true⟩,
        ⟨.extract (.loc 9) 2, none, none, true⟩,
        ⟨.tomb 1 (.k (.agg [.int .i64 0, .int .i64 0])), none, (some 14), true⟩,
        ⟨.move (.loc 10), none, (some 16), true⟩,
        ⟨.move (.loc 11), none, (some 15), true⟩,
        ⟨.upd 2 0 (.loc 13) (.loc 12), none, (some 14), true⟩])
     ((.seq ((.seq (.ops [⟨.callS 11 [], none, none, true⟩,
          ⟨.un .not (.loc 0), none, (some 5), true⟩])
       (.cond (.var 5)
         ((.seq (.ops [⟨.move (.k (.bool false)), none, (some 2), true⟩])
          (.ret)))
         (.skip))))
      ((.seq ((.seq (.ops [⟨.field 0 none (.var 6), none, none, true⟩,
           ⟨.field 0 none (.var 6), none, none, true⟩,
           ⟨.bin .neq .no (.loc 1) (.k (.int .i64 0)), none, (some 7), true⟩])
        (.cond (.var 7)
          ((.seq (.ops [⟨.move (.k (.bool true)), none, (some 2), true⟩])
           (.ret)))
          (.skip))))
       ((.seq ((.seq (.ops [⟨.move (.var 8), none, none, true⟩,
            ⟨.bin .leq .no (.loc 0) (.k (.int .i64 0)), none, none, true⟩,
            ⟨.move (.loc 1), none, none, true⟩,
            ⟨.move (.var 9), none, none, true⟩,
            ⟨.bin .leq .no (.loc 3) (.k (.int .i64 0)), none, none, true⟩,
            ⟨.pick (.loc 2) (.k (.bool true)) (.loc 4), none, none, true⟩,
            ⟨.move (.loc 5), none, none, true⟩,
            ⟨.move (.var 9), none, none, true⟩,
            ⟨.move (.var 8), none, none, true⟩,
            ⟨.bin .gtr .no (.loc 7) (.loc 8), none, none, true⟩,
            ⟨.pick (.loc 6) (.k (.bool true)) (.loc 9), none, (some 10), true⟩])
         (.cond (.var 10)
           ((.seq (.ops [⟨.move (.k (.bool false)), none, (some 2), true⟩])
            (.ret)))
           (.skip))))
        ((.seq (.ops [⟨.field 0 none (.var 11), none, none, true⟩,
            ⟨.field 0 none (.var 11), none, none, true⟩,
            ⟨.bin .neq .no (.loc 1) (.k (.int .i64 0)), none, none, true⟩,
            ⟨.move (.loc 2), none, none, true⟩,
            ⟨.move (.var 8), none, none, true⟩,
            ⟨.move (.var 12), none, none, true⟩,
            ⟨.bin .eql .no (.loc 4) (.loc 5), none, none, true⟩,
            ⟨.move (.loc 6), none, none, true⟩,
            ⟨.move (.var 13), none, none, true⟩,
            ⟨.move (.var 9), none, none, true⟩,
            ⟨.bin .leq .no (.loc 8) (.loc 9), none, none, true⟩,
            ⟨.pick (.loc 7) (.loc 10) (.k (.bool false)), none, none, true⟩,
            ⟨.pick (.loc 3) (.k (.bool true)) (.loc 11), none, none, true⟩,
            ⟨.move (.loc 12), none, none, true⟩,
            ⟨.field 0 none (.var 14), none, none, true⟩,
            ⟨.field 0 none (.var 14), none, none, true⟩,
            ⟨.bin .neq .no (.loc 15) (.k (.int .i64 0)), none, none, true⟩,
            ⟨.move (.loc 16), none, none, true⟩,
            ⟨.move (.var 8), none, none, true⟩,
            ⟨.move (.var 15), none, none, true⟩,
            ⟨.bin .eql .no (.loc 18) (.loc 19), none, none, true⟩,
            ⟨.move (.loc 20), none, none, true⟩,
            ⟨.move (.var 16), none, none, true⟩,
            ⟨.move (.var 9), none, none, true⟩,
            ⟨.bin .geq .no (.loc 22) (.loc 23), none, none, true⟩,
            ⟨.pick (.loc 21) (.loc 24) (.k (.bool false)), none, none, true⟩,
            ⟨.pick (.loc 17) (.k (.bool true)) (.loc 25), none, none, true⟩,
            ⟨.pick (.loc 13) (.loc 26) (.k (.bool false)), none, none, true⟩,
            ⟨.move (.loc 27), none, (some 2), true⟩])
         (.ret)))))))))))))))))⟩
-- 5 changeforge/changeforgelaw8.CanarySidesAreSymmetric vars [0, 1, 4, 2, 3, 52, 7, 10, 13, 65, 5, 8, 6, 9, 12, 11] names [base, other, base, other, , a, b, e1, c, d, e2, x, y, e3, , , , , , , , , , , , , , , , , , , , , , , , , , ]
def rf5 : RFunc := ⟨2, 16, [.var 2],
 ((.seq (.ops [⟨.tomb 1 (.var 0), none, (some 3), true⟩,
     ⟨.tomb 1 (.var 1), none, (some 4), true⟩,
     ⟨.move (.k (.bool false)), none, (some 2), true⟩])
  ((.seq (.ops [⟨.field 0 (some 2) (.var 3), none, none, true⟩,
      ⟨.field 0 (some 2) (.var 4), none, none, true⟩,
      ⟨.callS 8 [.loc 0, .loc 1], none, none, true⟩,
      ⟨.move (.loc 2), none, none, true⟩,
      ⟨.extract (.loc 3) 0, none, none, true⟩,
      ⟨.extract (.loc 3) 1, none, none, true⟩,
      ⟨.extract (.loc 3) 2, none, none, true⟩,
      ⟨.tomb 1 (.k (.agg [.int .i64 0, .int .i64 0])), none, (some 6), true⟩,
      ⟨.move (.loc 4), none, (some 10), true⟩,
      ⟨.move (.loc 5), none, (some 12), true⟩,
      ⟨.upd 2 0 (.loc 7) (.loc 6), none, (some 6), true⟩])
   ((.seq (.ops [⟨.field 0 none (.var 4), none, none, true⟩,
       ⟨.field 1 none (.var 4), none, none, true⟩,
       ⟨.field 0 none (.var 4), none, none, true⟩,
       ⟨.field 0 none (.var 4), none, none, true⟩,
       ⟨.build [.int .i64 0, .int .i64 0] [(0, 1, (.loc 1)), (1, 1, (.loc 3))], none, none, true⟩,
       ⟨.field 0 none (.var 3), none, none, true⟩,
       ⟨.field 1 none (.var 3), none, none, true⟩,
       ⟨.field 0 none (.var 3), none, none, true⟩,
       ⟨.field 0 none (.var 3), none, none, true⟩,
       ⟨.build [.int .i64 0, .int .i64 0] [(0, 1, (.loc 6)), (1, 1, (.loc 8))], none, none, true⟩,
       ⟨.callS 8 [.loc 4, .loc 9], none, none, true⟩,
       ⟨.move (.loc 10), none, none, true⟩,
       ⟨.extract (.loc 11) 0, none, none, true⟩,
       ⟨.extract (.loc 11) 1, none, none, true⟩,
       ⟨.extract (.loc 11) 2, none, none, true⟩,
       ⟨.tomb 1 (.k (.agg [.int .i64 0, .int .i64 0])), none, (some 7), true⟩,
       ⟨.move (.loc 12), none, (some 11), true⟩,
       ⟨.move (.loc 13), none, (some 13), true⟩,
       ⟨.upd 2 0 (.loc 15) (.loc 14), none, (some 7), true⟩])
    ((.seq (.ops [⟨.field 0 none (.var 3), none, none, true⟩,
        ⟨.field 1 none (.var 3), none, none, true⟩,
        ⟨.field 0 none (.var 3), none, none, true⟩,
        ⟨.field 0 none (.var 3), none, none, true⟩,
        ⟨.build [.int .i64 0, .int .i64 0] [(0, 1, (.loc 1)), (1, 1, (.loc 3))], none, none, true⟩,
        ⟨.field 0 none (.var 4), none, none, true⟩,
        ⟨.field 1 none (.var 4), none, none, true⟩,
        ⟨.field 0 none (.var 4), none, none, true⟩,
        ⟨.field 0 none (.var 4), none, none, true⟩,
        ⟨.build [.int .i64 0, .int .i64 0] [(0, 1, (.loc 6)), (1, 1, (.loc 8))], none, none, true⟩,
        ⟨.callS 8 [.loc 4, .loc 9], none, none, true⟩,
        ⟨.move (.loc 10), none, none, true⟩,
        ⟨.extract (.loc 11) 0, none, none, true⟩,
        ⟨.extract (.loc 11) 1, none, none, true⟩,
        ⟨.extract (.loc 11) 2, none, none, true⟩,
        ⟨.tomb 1 (.k (.agg [.int .i64 0, .int .i64 0])), none, (some 8), true⟩,
        ⟨.move (.loc 12), none, (some 15), true⟩,
        ⟨.move (.loc 13), none, (some 14), true⟩,
        ⟨.upd 2 0 (.loc 15) (.loc 14), none, (some 8), true⟩])
     ((.seq ((.seq (.ops [⟨.callS 11 [], none, none, true⟩,
          ⟨.un .not (.loc 0), none, (some 5), true⟩])
       (.cond (.var 5)
         ((.seq (.ops [⟨.move (.k (.bool false)), none, (some 2), true⟩])
          (.ret)))
         (.skip))))
      ((.seq ((.seq (.ops [⟨.field 0 none (.var 6), none, none, true⟩,
           ⟨.field 0 none (.var 6), none, none, true⟩,
           ⟨.bin .neq .no (.loc 1) (.k (.int .i64 0)), none, none, true⟩,
           ⟨.move (.loc 2), none, none, true⟩,
           ⟨.field 0 none (.var 7), none, none, true⟩,
           ⟨.field 0 none (.var 7), none, none, true⟩,
           ⟨.bin .neq .no (.loc 5) (.k (.int .i64 0)), none, none, true⟩,
           ⟨.pick (.loc 3) (.k (.bool true)) (.loc 6), none, none, true⟩,
           ⟨.move (.loc 7), none, none, true⟩,
           ⟨.field 0 none (.var 8), none, none, true⟩,
           ⟨.field 0 none (.var 8), none, none, true⟩,
           ⟨.bin .neq .no (.loc 10) (.k (.int .i64 0)), none, none, true⟩,
           ⟨.pick (.loc 8) (.k (.bool true)) (.loc 11), none, (some 9), true⟩])
        (.cond (.var 9)
          ((.seq (.ops [⟨.move (.k (.bool true)), none, (some 2), true⟩])
           (.ret)))
          (.skip))))
       ((.seq (.ops [⟨.move (.var 10), none, none, true⟩,
           ⟨.move (.var 11), none, none, true⟩,
           ⟨.bin .eql .no (.loc 0) (.loc 1), none, none, true⟩,
           ⟨.move (.loc 2), none, none, true⟩,
           ⟨.move (.var 12), none, none, true⟩,
           ⟨.move (.var 13), none, none, true⟩,
           ⟨.bin .eql .no (.loc 4) (.loc 5), none, none, true⟩,
           ⟨.pick (.loc 3) (.loc 6) (.k (.bool false)), none, none, true⟩,
           ⟨.move (.loc 7), none, none, true⟩,
           ⟨.move (.var 12), none, none, true⟩,
           ⟨.move (.var 14), none, none, true⟩,
           ⟨.bin .eql .no (.loc 9) (.loc 10), none, none, true⟩,
           ⟨.pick (.loc 8) (.loc 11) (.k (.bool false)), none, none, true⟩,
           ⟨.move (.loc 12), none, none, true⟩,
           ⟨.move (.var 10), none, none, true⟩,
           ⟨.move (.var 15), none, none, true⟩,
           ⟨.bin .add .no (.loc 14) (.loc 15), none, none, true⟩,
           ⟨.move (.var 12), none, none, true⟩,
           ⟨.bin .gtr .no (.loc 16) (.loc 17), none, none, true⟩,
           ⟨.pick (.loc 13) (.loc 18) (.k (.bool false)), none, none, true⟩,
           ⟨.move (.loc 19), none, (some 2), true⟩])
        (.ret)))))))))))))))⟩
-- 6 changeforge/changeforgelaw8.CanaryToleranceIsExact vars [0, 1, 2, 3, 8, 4, 32, 10, 12, 11, 9] names [base, samples, bad, perMille, base, samples, bad, perMille, , t, e1, d, e2, , , , , , , , , , , , , , , , , , , , , , , , , , , ]
def rf6 : RFunc := ⟨4, 11, [.var 4],
 ((.seq (.ops [⟨.tomb 1 (.var 0), none, (some 5), true⟩,
     ⟨.move (.k (.bool false)), none, (some 4), true⟩])
  ((.seq (.ops [⟨.field 0 (some 2) (.var 5), none, none, true⟩,
      ⟨.move (.var 1), none, none, true⟩,
      ⟨.move (.var 3), none, none, true⟩,
      ⟨.callS 10 [.loc 0, .loc 1, .loc 2], none, none, true⟩,
      ⟨.move (.loc 3), none, none, true⟩,
      ⟨.extract (.loc 4) 0, none, none, true⟩,
      ⟨.extract (.loc 4) 1, none, none, true⟩,
      ⟨.tomb 1 (.k (.agg [.int .i64 0, .int .i64 0])), none, (some 7), true⟩,
      ⟨.move (.loc 5), none, (some 10), true⟩,
      ⟨.upd 2 0 (.loc 7) (.loc 6), none, (some 7), true⟩])
   ((.seq (.ops [⟨.field 0 (some 2) (.var 5), none, none, true⟩,
       ⟨.move (.var 1), none, none, true⟩,
       ⟨.move (.var 2), none, none, true⟩,
       ⟨.bin .sub .no (.loc 1) (.loc 2), none, none, true⟩,
       ⟨.move (.var 2), none, none, true⟩,
       ⟨.build [.int .i64 0, .int .i64 0] [(0, 1, (.loc 3)), (1, 1, (.loc 4))], none, none, true⟩,
       ⟨.move (.var 3), none, none, true⟩,
       ⟨.callS 9 [.loc 0, .loc 5, .k (.int .i64 0), .loc 6], none, none, true⟩,
       ⟨.move (.loc 7), none, none, true⟩,
       ⟨.extract (.loc 8) 0, none, none, true⟩,
       ⟨.extract (.loc 8) 1, none, none, true⟩,
       ⟨.tomb 1 (.k (.agg [.int .i64 0, .int .i64 0])), none, (some 8), true⟩,
       ⟨.move (.loc 9), none, (some 9), true⟩,
       ⟨.upd 2 0 (.loc 11) (.loc 10), none, (some 8), true⟩])
    ((.seq ((.seq (.ops [⟨.callS 11 [], none, none, true⟩,
         ⟨.un .not (.loc 0), none, (some 6), true⟩])
      (.cond (.var 6)
        ((.seq (.ops [⟨.move (.k (.bool false)), none, (some 4), true⟩])
         (.ret)))
        (.skip))))
     ((.seq (.ops [⟨.field 0 none (.var 7), none, none, true⟩,
         ⟨.field 0 none (.var 7), none, none, true⟩,
         ⟨.bin .neq .no (.loc 1) (.k (.int .i64 0)), none, none, true⟩,
         ⟨.move (.loc 2), none, none, true⟩,
         ⟨.field 0 none (.var 8), none, none, true⟩,
         ⟨.field 0 none (.var 8), none, none, true⟩,
         ⟨.bin .neq .no (.loc 5) (.k (.int .i64 0)), none, none, true⟩,
         ⟨.pick (.loc 3) (.k (.bool true)) (.loc 6), none, none, true⟩,
         ⟨.move (.loc 7), none, none, true⟩,
         ⟨.move (.var 9), none, none, true⟩,
         ⟨.bin .eql .no (.loc 9) (.k (.int .i64 3)), none, none, true⟩,
         ⟨.move (.var 2), none, none, true⟩,
         ⟨.move (.var 10), none, none, true⟩,
         ⟨.bin .gtr .no (.loc 11) (.loc 12), none, none, true⟩,
         ⟨.bin .eql .bool (.loc 10) (.loc 13), none, none, true⟩,
         ⟨.pick (.loc 8) (.k (.bool true)) (.loc 14), none, none, true⟩,
         ⟨.move (.loc 15), none, (some 4), true⟩])
      (.ret)))))))))))⟩
-- 7 changeforge/changeforgelaw8.CanaryStricterToleratesLess vars [0, 1, 2, 3, 8, 4, 43, 10, 46, 12, 11, 9, 14, 13] names [base, samples, perMille, more, base, samples, perMille, more, , a, e1, b, e2, c, e3, , , , , , , , , , , , , , , , , , , , , , , , , ]
def rf7 : RFunc := ⟨4, 14, [.var 4],
 ((.seq (.ops [⟨.tomb 1 (.var 0), none, (some 5), true⟩,
     ⟨.move (.k (.bool false)), none, (some 4), true⟩])
  ((.seq (.ops [⟨.field 0 (some 2) (.var 5), none, none, true⟩,
      ⟨.move (.var 1), none, none, true⟩,
      ⟨.move (.var 2), none, none, true⟩,
      ⟨.callS 10 [.loc 0, .loc 1, .loc 2], none, none, true⟩,
      ⟨.move (.loc 3), none, none, true⟩,
      ⟨.extract (.loc 4) 0, none, none, true⟩,
      ⟨.extract (.loc 4) 1, none, none, true⟩,
      ⟨.tomb 1 (.k (.agg [.int .i64 0, .int .i64 0])), none, (some 7), true⟩,
      ⟨.move (.loc 5), none, (some 11), true⟩,
      ⟨.upd 2 0 (.loc 7) (.loc 6), none, (some 7), true⟩])
   ((.seq (.ops [⟨.field 0 (some 2) (.var 5), none, none, true⟩,
       ⟨.move (.var 1), none, none, true⟩,
       ⟨.move (.var 3), none, none, true⟩,
       ⟨.callS 10 [.loc 0, .loc 1, .loc 2], none, none, true⟩,
       ⟨.move (.loc 3), none, none, true⟩,
       ⟨.extract (.loc 4) 0, none, none, true⟩,
       ⟨.extract (.loc 4) 1, none, none, true⟩,
       ⟨.tomb 1 (.k (.agg [.int .i64 0, .int .i64 0])), none, (some 9), true⟩,
       ⟨.move (.loc 5), none, (some 10), true⟩,
       ⟨.upd 2 0 (.loc 7) (.loc 6), none, (some 9), true⟩])
    ((.seq (.ops [⟨.field 0 none (.var 5), none, none, true⟩,
        ⟨.field 0 none (.var 5), none, none, true⟩,
        ⟨.bin .add .no (.loc 1) (.k (.int .i64 1)), none, none, true⟩,
        ⟨.field 0 none (.var 5), none, none, true⟩,
        ⟨.field 1 none (.var 5), none, none, true⟩,
        ⟨.bin .sub .no (.loc 4) (.k (.int .i64 1)), none, none, true⟩,
        ⟨.build [.int .i64 0, .int .i64 0] [(0, 1, (.loc 2)), (1, 1, (.loc 5))], none, none, true⟩,
        ⟨.move (.var 1), none, none, true⟩,
        ⟨.move (.var 2), none, none, true⟩,
        ⟨.callS 10 [.loc 6, .loc 7, .loc 8], none, none, true⟩,
        ⟨.move (.loc 9), none, none, true⟩,
        ⟨.extract (.loc 10) 0, none, none, true⟩,
        ⟨.extract (.loc 10) 1, none, none, true⟩,
        ⟨.tomb 1 (.k (.agg [.int .i64 0, .int .i64 0])), none, (some 12), true⟩,
        ⟨.move (.loc 11), none, (some 13), true⟩,
        ⟨.upd 2 0 (.loc 13) (.loc 12), none, (some 12), true⟩])
     ((.seq ((.seq (.ops [⟨.callS 11 [], none, none, true⟩,
          ⟨.un .not (.loc 0), none, (some 6), true⟩])
       (.cond (.var 6)
         ((.seq (.ops [⟨.move (.k (.bool false)), none, (some 4), true⟩])
          (.ret)))
         (.skip))))
      ((.seq ((.seq (.ops [⟨.field 0 none (.var 7), none, none, true⟩,
           ⟨.field 0 none (.var 7), none, none, true⟩,
           ⟨.bin .neq .no (.loc 1) (.k (.int .i64 0)), none, (some 8), true⟩])
        (.cond (.var 8)
          ((.seq (.ops [⟨.move (.k (.bool true)), none, (some 4), true⟩])
           (.ret)))
          (.skip))))
       ((.seq (.ops [⟨.field 0 none (.var 9), none, none, true⟩,
           ⟨.field 0 none (.var 9), none, none, true⟩,
           ⟨.bin .neq .no (.loc 1) (.k (.int .i64 0)), none, none, true⟩,
           ⟨.move (.loc 2), none, none, true⟩,
           ⟨.move (.var 3), none, none, true⟩,
           ⟨.move (.var 2), none, none, true⟩,
           ⟨.bin .lss .no (.loc 4) (.loc 5), none, none, true⟩,
           ⟨.pick (.loc 3) (.k (.bool true)) (.loc 6), none, none, true⟩,
           ⟨.move (.loc 7), none, none, true⟩,
           ⟨.move (.var 10), none, none, true⟩,
           ⟨.move (.var 11), none, none, true⟩,
           ⟨.bin .leq .no (.loc 9) (.loc 10), none, none, true⟩,
           ⟨.pick (.loc 8) (.k (.bool true)) (.loc 11), none, none, true⟩,
           ⟨.move (.loc 12), none, none, true⟩,
           ⟨.field 0 none (.var 12), none, none, true⟩,
           ⟨.field 0 none (.var 12), none, none, true⟩,
           ⟨.bin .neq .no (.loc 15) (.k (.int .i64 0)), none, none, true⟩,
           ⟨.move (.loc 16), none, none, true⟩,
           ⟨.move (.var 13), none, none, true⟩,
           ⟨.move (.var 11), none, none, true⟩,
           ⟨.bin .leq .no (.loc 18) (.loc 19), none, none, true⟩,
           ⟨.pick (.loc 17) (.k (.bool true)) (.loc 20), none, none, true⟩,
           ⟨.pick (.loc 13) (.loc 21) (.k (.bool false)), none, none, true⟩,
           ⟨.move (.loc 22), none, (some 4), true⟩])
        (.ret)))))))))))))))⟩
-- 8 changeforge/canary.Tail vars [0, 1, 4, 5, 6, 2, 3, 7, 15, 8, 9] names [base, canary, base, canary, , , , f, ways, all, , , , , , , , , , , , , , , , ]
def rf8 : RFunc := ⟨2, 11, [.var 2, .var 3, .part 4 (some 2)],
 ((.seq (.ops [⟨.tomb 1 (.var 0), none, (some 5), true⟩,
     ⟨.tomb 1 (.var 1), none, (some 6), true⟩,
     ⟨.move (.k (.int .i64 0)), none, (some 2), true⟩,
     ⟨.move (.k (.int .i64 0)), none, (some 3), true⟩,
     ⟨.tomb 1 (.k (.agg [.int .i64 0, .int .i64 0])), none, (some 4), true⟩])
  ((.seq (.ops [⟨.field 0 (some 2) (.var 5), none, none, true⟩,
      ⟨.field 0 (some 2) (.var 6), none, none, true⟩,
      ⟨.callS 18 [.loc 0, .loc 1], none, none, true⟩,
      ⟨.tomb 1 (.k (.agg [.int .i64 0, .int .i64 0])), none, (some 7), true⟩,
      ⟨.upd 2 0 (.loc 3) (.loc 2), none, (some 7), true⟩])
   ((.seq ((.seq (.ops [⟨.field 0 (some 2) (.var 7), none, none, true⟩,
        ⟨.build [.int .i64 0, .int .i64 0] [], none, none, true⟩,
        ⟨.bin .neq (.agg [.int, .int]) (.loc 0) (.loc 1), none, (some 8), true⟩])
     (.cond (.var 8)
       ((.seq (.ops [⟨.field 0 (some 2) (.var 7), none, none, true⟩,
           ⟨.move (.k (.int .i64 0)), none, (some 2), false⟩,
           ⟨.move (.k (.int .i64 0)), none, (some 3), false⟩,
           ⟨.upd 2 0 (.var 4) (.loc 0), none, (some 4), true⟩])
        (.ret)))
       (.skip))))
    ((.seq (.ops [⟨.field 0 (some 2) (.var 5), none, none, true⟩,
        ⟨.field 0 (some 2) (.var 6), none, none, true⟩,
        ⟨.callS 19 [.loc 0, .loc 1], none, none, true⟩,
        ⟨.move (.loc 2), none, none, true⟩,
        ⟨.extract (.loc 3) 0, none, none, true⟩,
        ⟨.extract (.loc 3) 1, none, none, true⟩,
        ⟨.move (.loc 4), none, (some 9), true⟩,
        ⟨.move (.loc 5), none, (some 10), true⟩])
     ((.seq (.ops [⟨.move (.var 9), none, none, false⟩,
         ⟨.move (.var 10), none, none, false⟩,
         ⟨.field 0 (some 2) (.var 7), none, none, true⟩,
         ⟨.move (.loc 0), none, (some 2), false⟩,
         ⟨.move (.loc 1), none, (some 3), false⟩,
         ⟨.upd 2 0 (.var 4) (.loc 2), none, (some 4), true⟩])
      (.ret)))))))))))⟩
-- 9 changeforge/canary.Decide vars [0, 1, 2, 3, 8, 9, 4, 5, 10, 34, 38, 11, 12, 46, 54] names [base, canary, need, perMille, base, canary, need, perMille, , , f, ways, all, , , , , , , , , , , , , , , , , , , , , , , , , , , ]
def rf9 : RFunc := ⟨4, 15, [.var 4, .part 5 (some 2)],
 ((.seq (.ops [⟨.tomb 1 (.var 0), none, (some 6), true⟩,
     ⟨.tomb 1 (.var 1), none, (some 7), true⟩,
     ⟨.move (.k (.int .i64 0)), none, (some 4), true⟩,
     ⟨.tomb 1 (.k (.agg [.int .i64 0, .int .i64 0])), none, (some 5), true⟩])
  ((.seq (.ops [⟨.field 0 (some 2) (.var 6), none, none, true⟩,
      ⟨.field 0 (some 2) (.var 7), none, none, true⟩,
      ⟨.callS 18 [.loc 0, .loc 1], none, none, true⟩,
      ⟨.tomb 1 (.k (.agg [.int .i64 0, .int .i64 0])), none, (some 8), true⟩,
      ⟨.upd 2 0 (.loc 3) (.loc 2), none, (some 8), true⟩])
   ((.seq ((.seq (.ops [⟨.field 0 (some 2) (.var 8), none, none, true⟩,
        ⟨.build [.int .i64 0, .int .i64 0] [], none, none, true⟩,
        ⟨.bin .eql (.agg [.int, .int]) (.loc 0) (.loc 1), none, none, true⟩,
        ⟨.move (.loc 2), none, none, true⟩,
        ⟨.move (.var 2), none, none, true⟩,
        ⟨.bin .lss .no (.loc 4) (.k (.int .i64 0)), none, none, true⟩,
        ⟨.move (.loc 5), none, none, true⟩,
        ⟨.move (.var 2), none, none, true⟩,
        ⟨.bin .gtr .no (.loc 7) (.k (.int .i64 25)), none, none, true⟩,
        ⟨.pick (.loc 6) (.k (.bool true)) (.loc 8), none, none, true⟩,
        ⟨.move (.loc 9), none, none, true⟩,
        ⟨.move (.var 3), none, none, true⟩,
        ⟨.bin .lss .no (.loc 11) (.k (.int .i64 0)), none, none, true⟩,
        ⟨.pick (.loc 10) (.k (.bool true)) (.loc 12), none, none, true⟩,
        ⟨.move (.loc 13), none, none, true⟩,
        ⟨.move (.var 3), none, none, true⟩,
        ⟨.bin .geq .no (.loc 15) (.k (.int .i64 1000)), none, none, true⟩,
        ⟨.pick (.loc 14) (.k (.bool true)) (.loc 16), none, none, true⟩,
        ⟨.pick (.loc 3) (.loc 17) (.k (.bool false)), none, (some 9), true⟩])
     (.cond (.var 9)
       (.ops [⟨.build [.int .i64 0, .int .i64 0] [(0, 1, (.k (.int .i64 3))), (1, 1, (.k (.int .i64 (-3))))], none, none, true⟩,
          ⟨.upd 2 0 (.var 8) (.loc 0), none, (some 8), true⟩])
       (.skip))))
    ((.seq ((.seq (.ops [⟨.field 0 (some 2) (.var 8), none, none, true⟩,
         ⟨.build [.int .i64 0, .int .i64 0] [], none, none, true⟩,
         ⟨.bin .neq (.agg [.int, .int]) (.loc 0) (.loc 1), none, (some 10), true⟩])
      (.cond (.var 10)
        ((.seq (.ops [⟨.field 0 (some 2) (.var 8), none, none, true⟩,
            ⟨.move (.k (.int .i64 0)), none, (some 4), false⟩,
            ⟨.upd 2 0 (.var 5) (.loc 0), none, (some 5), true⟩])
         (.ret)))
        (.skip))))
     ((.seq ((.seq (.ops [⟨.field 0 (some 2) (.var 6), none, none, true⟩,
          ⟨.field 0 (some 2) (.var 7), none, none, true⟩,
          ⟨.callS 19 [.loc 0, .loc 1], none, none, true⟩,
          ⟨.move (.loc 2), none, none, true⟩,
          ⟨.extract (.loc 3) 0, none, none, true⟩,
          ⟨.extract (.loc 3) 1, none, none, true⟩,
          ⟨.move (.loc 4), none, (some 11), true⟩,
          ⟨.move (.loc 5), none, (some 12), true⟩])
       (.block 0
         ((.seq (.ops [⟨.move (.var 11), none, none, true⟩,
            ⟨.bin .mul .no (.loc 0) (.k (.int .i64 1000)), none, none, true⟩,
            ⟨.move (.var 12), none, none, true⟩,
            ⟨.move (.var 3), none, none, true⟩,
            ⟨.bin .mul .no (.loc 2) (.loc 3), none, none, true⟩,
            ⟨.bin .leq .no (.loc 1) (.loc 4), none, none, true⟩,
            ⟨.move (.loc 5), none, (some 13), true⟩])
         (.cond (.var 13)
           ((.seq (.ops [⟨.field 0 (some 2) (.var 8), none, none, true⟩,
               ⟨.move (.k (.int .i64 3)), none, (some 4), false⟩,
               ⟨.upd 2 0 (.var 5) (.loc 0), none, (some 5), true⟩])
            (.ret)))
           ((.seq (.ops [⟨.field 0 none (.var 7), none, none, true⟩,
               ⟨.field 0 none (.var 7), none, none, true⟩,
               ⟨.field 0 none (.var 7), none, none, true⟩,
               ⟨.field 1 none (.var 7), none, none, true⟩,
               ⟨.bin .add .no (.loc 1) (.loc 3), none, none, true⟩,
               ⟨.move (.var 2), none, none, true⟩,
               ⟨.bin .lss .no (.loc 4) (.loc 5), none, none, true⟩,
               ⟨.move (.loc 6), none, (some 14), true⟩])
            (.cond (.var 14)
              ((.seq (.ops [⟨.field 0 (some 2) (.var 8), none, none, true⟩,
                  ⟨.move (.k (.int .i64 1)), none, (some 4), false⟩,
                  ⟨.upd 2 0 (.var 5) (.loc 0), none, (some 5), true⟩])
               (.ret)))
              (.skip))))))))))
      ((.seq (.ops [⟨.field 0 (some 2) (.var 8), none, none, true⟩,
          ⟨.move (.k (.int .i64 2)), none, (some 4), false⟩,
          ⟨.upd 2 0 (.var 5) (.loc 0), none, (some 5), true⟩])
       (.ret)))))))))))))⟩
-- 10 changeforge/canary.Tolerated vars [0, 1, 2, 6, 7, 3, 8, 24, 36, 40, 9, 44, 10, 57] names [base, samples, perMille, base, samples, perMille, , , f, bad, d, _, , , , , , , , , , , , , , , , , , , , , , , , , , , , ]
def rf10 : RFunc := ⟨3, 14, [.var 3, .part 4 (some 2)],
 ((.seq (.ops [⟨.tomb 1 (.var 0), none, (some 5), true⟩,
     ⟨.move (.k (.int .i64 0)), none, (some 3), true⟩,
     ⟨.tomb 1 (.k (.agg [.int .i64 0, .int .i64 0])), none, (some 4), true⟩])
  ((.seq (.ops [⟨.field 0 (some 2) (.var 5), none, none, true⟩,
      ⟨.callS 12 [.loc 0], none, none, true⟩,
      ⟨.tomb 1 (.k (.agg [.int .i64 0, .int .i64 0])), none, (some 6), true⟩,
      ⟨.upd 2 0 (.loc 2) (.loc 1), none, (some 6), true⟩])
   ((.seq ((.seq (.ops [⟨.field 0 (some 2) (.var 6), none, none, true⟩,
        ⟨.build [.int .i64 0, .int .i64 0] [], none, none, true⟩,
        ⟨.bin .eql (.agg [.int, .int]) (.loc 0) (.loc 1), none, none, true⟩,
        ⟨.move (.loc 2), none, none, true⟩,
        ⟨.move (.var 1), none, none, true⟩,
        ⟨.bin .lss .no (.loc 4) (.k (.int .i64 0)), none, none, true⟩,
        ⟨.move (.loc 5), none, none, true⟩,
        ⟨.move (.var 1), none, none, true⟩,
        ⟨.bin .gtr .no (.loc 7) (.k (.int .i64 25)), none, none, true⟩,
        ⟨.pick (.loc 6) (.k (.bool true)) (.loc 8), none, none, true⟩,
        ⟨.pick (.loc 3) (.loc 9) (.k (.bool false)), none, (some 7), true⟩])
     (.cond (.var 7)
       (.ops [⟨.build [.int .i64 0, .int .i64 0] [(0, 1, (.k (.int .i64 3))), (1, 1, (.k (.int .i64 (-2))))], none, none, true⟩,
          ⟨.upd 2 0 (.var 6) (.loc 0), none, (some 6), true⟩])
       (.skip))))
    ((.seq ((.seq (.ops [⟨.field 0 (some 2) (.var 6), none, none, true⟩,
         ⟨.build [.int .i64 0, .int .i64 0] [], none, none, true⟩,
         ⟨.bin .eql (.agg [.int, .int]) (.loc 0) (.loc 1), none, none, true⟩,
         ⟨.move (.loc 2), none, none, true⟩,
         ⟨.move (.var 2), none, none, true⟩,
         ⟨.bin .lss .no (.loc 4) (.k (.int .i64 0)), none, none, true⟩,
         ⟨.move (.loc 5), none, none, true⟩,
         ⟨.move (.var 2), none, none, true⟩,
         ⟨.bin .geq .no (.loc 7) (.k (.int .i64 1000)), none, none, true⟩,
         ⟨.pick (.loc 6) (.k (.bool true)) (.loc 8), none, none, true⟩,
         ⟨.pick (.loc 3) (.loc 9) (.k (.bool false)), none, (some 8), true⟩])
      (.cond (.var 8)
        (.ops [⟨.build [.int .i64 0, .int .i64 0] [(0, 1, (.k (.int .i64 3))), (1, 1, (.k (.int .i64 (-3))))], none, none, true⟩,
           ⟨.upd 2 0 (.var 6) (.loc 0), none, (some 6), true⟩])
        (.skip))))
     ((.seq ((.seq (.ops [⟨.field 0 (some 2) (.var 6), none, none, true⟩,
          ⟨.build [.int .i64 0, .int .i64 0] [], none, none, true⟩,
          ⟨.bin .neq (.agg [.int, .int]) (.loc 0) (.loc 1), none, (some 9), true⟩])
       (.cond (.var 9)
         ((.seq (.ops [⟨.field 0 (some 2) (.var 6), none, none, true⟩,
             ⟨.move (.k (.int .i64 0)), none, (some 3), false⟩,
             ⟨.upd 2 0 (.var 4) (.loc 0), none, (some 4), true⟩])
          (.ret)))
         (.skip))))
      ((.seq (.ops [⟨.move (.var 1), none, none, true⟩,
          ⟨.move (.loc 0), none, (some 10), true⟩])
       ((.seq (.block 0
          (.loop
           ((.seq ((.seq (.ops [⟨.move (.var 10), none, none, true⟩,
               ⟨.bin .gtr .no (.loc 0) (.k (.int .i64 0)), none, (some 11), true⟩])
            (.cond (.var 11)
              (.skip)
              (.exit 0))))
           (.block 1
             ((.seq ((.seq (.ops [⟨.field 0 (some 2) (.var 5), none, none, true⟩,
                 ⟨.move (.var 1), none, none, true⟩,
                 ⟨.move (.var 10), none, none, true⟩,
                 ⟨.bin .sub .no (.loc 1) (.loc 2), none, none, true⟩,
                 ⟨.move (.var 10), none, none, true⟩,
                 ⟨.build [.int .i64 0, .int .i64 0] [(0, 1, (.loc 3)), (1, 1, (.loc 4))], none, none, true⟩,
                 ⟨.move (.var 2), none, none, true⟩,
                 ⟨.callS 9 [.loc 0, .loc 5, .k (.int .i64 0), .loc 6], none, none, true⟩,
                 ⟨.move (.loc 7), none, none, true⟩,
                 ⟨.extract (.loc 8) 0, none, none, true⟩,
                 ⟨.extract (.loc 8) 1, none, none, true⟩,
                 ⟨.alloc 1 [.int .i64 0, .int .i64 0], none, none, true⟩,
                 ⟨.move (.loc 9), none, (some 12), true⟩,
                 ⟨.store 2 (.loc 11) (.loc 10) [], none, none, true⟩])
              ((.seq (.ops [⟨.move (.var 12), none, none, true⟩,
                  ⟨.bin .eql .no (.loc 0) (.k (.int .i64 2)), none, (some 13), true⟩])
               (.cond (.var 13)
                 (.exit 0)
                 (.skip))))))
             (.ops [⟨.move (.var 10), none, none, true⟩,
                ⟨.bin .sub .no (.loc 0) (.k (.int .i64 1)), none, none, true⟩,
                ⟨.move (.loc 1), none, (some 10), true⟩]))))))))
        ((.seq (.ops [⟨.move (.var 10), none, none, false⟩,
            ⟨.field 0 (some 2) (.var 6), none, none, true⟩,
            ⟨.move (.loc 0), none, (some 3), false⟩,
            ⟨.upd 2 0 (.var 4) (.loc 1), none, (some 4), true⟩])
         (.ret)))))))))))))))))⟩
-- 11 changeforge/changeforgelaw8.canaryExample vars [0, 1, 2, 4, 6, 8, 3, 5, 7, 9] names [, a, b, e1, d, e2, w, e3, t, e4, , , , , , , , , , , , , , , , , , , , , , , , , , , , , , ]
def rf11 : RFunc := ⟨0, 10, [.var 0],
 ((.seq (.ops [⟨.move (.k (.bool false)), none, (some 0), true⟩])
  ((.seq (.ops [⟨.build [.int .i64 0, .int .i64 0] [(0, 1, (.k (.int .i64 1)))], none, none, true⟩,
      ⟨.build [.int .i64 0, .int .i64 0] [(1, 1, (.k (.int .i64 1)))], none, none, true⟩,
      ⟨.callS 8 [.loc 0, .loc 1], none, none, true⟩,
      ⟨.move (.loc 2), none, none, true⟩,
      ⟨.extract (.loc 3) 0, none, none, true⟩,
      ⟨.extract (.loc 3) 1, none, none, true⟩,
      ⟨.extract (.loc 3) 2, none, none, true⟩,
      ⟨.tomb 1 (.k (.agg [.int .i64 0, .int .i64 0])), none, (some 6), true⟩,
      ⟨.move (.loc 4), none, (some 1), true⟩,
      ⟨.move (.loc 5), none, (some 2), true⟩,
      ⟨.upd 2 0 (.loc 7) (.loc 6), none, (some 6), true⟩])
   ((.seq (.ops [⟨.build [.int .i64 0, .int .i64 0] [(0, 1, (.k (.int .i64 20)))], none, none, true⟩,
       ⟨.build [.int .i64 0, .int .i64 0] [(1, 1, (.k (.int .i64 20)))], none, none, true⟩,
       ⟨.callS 9 [.loc 0, .loc 1, .k (.int .i64 5), .k (.int .i64 50)], none, none, true⟩,
       ⟨.move (.loc 2), none, none, true⟩,
       ⟨.extract (.loc 3) 0, none, none, true⟩,
       ⟨.extract (.loc 3) 1, none, none, true⟩,
       ⟨.tomb 1 (.k (.agg [.int .i64 0, .int .i64 0])), none, (some 7), true⟩,
       ⟨.move (.loc 4), none, (some 3), true⟩,
       ⟨.upd 2 0 (.loc 6) (.loc 5), none, (some 7), true⟩])
    ((.seq (.ops [⟨.build [.int .i64 0, .int .i64 0] [(0, 1, (.k (.int .i64 20)))], none, none, true⟩,
        ⟨.build [.int .i64 0, .int .i64 0] [(0, 1, (.k (.int .i64 2)))], none, none, true⟩,
        ⟨.callS 9 [.loc 0, .loc 1, .k (.int .i64 5), .k (.int .i64 50)], none, none, true⟩,
        ⟨.move (.loc 2), none, none, true⟩,
        ⟨.extract (.loc 3) 0, none, none, true⟩,
        ⟨.extract (.loc 3) 1, none, none, true⟩,
        ⟨.tomb 1 (.k (.agg [.int .i64 0, .int .i64 0])), none, (some 8), true⟩,
        ⟨.move (.loc 4), none, (some 4), true⟩,
        ⟨.upd 2 0 (.loc 6) (.loc 5), none, (some 8), true⟩])
     ((.seq (.ops [⟨.build [.int .i64 0, .int .i64 0] [(0, 1, (.k (.int .i64 9)))], none, none, true⟩,
         ⟨.callS 10 [.loc 0, .k (.int .i64 7), .k (.int .i64 0)], none, none, true⟩,
         ⟨.move (.loc 1), none, none, true⟩,
         ⟨.extract (.loc 2) 0, none, none, true⟩,
         ⟨.extract (.loc 2) 1, none, none, true⟩,
         ⟨.tomb 1 (.k (.agg [.int .i64 0, .int .i64 0])), none, (some 9), true⟩,
         ⟨.move (.loc 3), none, (some 5), true⟩,
         ⟨.upd 2 0 (.loc 5) (.loc 4), none, (some 9), true⟩])
      ((.seq (.ops [⟨.move (.var 1), none, none, true⟩,
          ⟨.bin .eql .no (.loc 0) (.k (.int .i64 1)), none, none, true⟩,
          ⟨.move (.loc 1), none, none, true⟩,
          ⟨.move (.var 2), none, none, true⟩,
          ⟨.bin .eql .no (.loc 3) (.k (.int .i64 2)), none, none, true⟩,
          ⟨.pick (.loc 2) (.loc 4) (.k (.bool false)), none, none, true⟩,
          ⟨.move (.loc 5), none, none, true⟩,
          ⟨.move (.var 3), none, none, true⟩,
          ⟨.bin .eql .no (.loc 7) (.k (.int .i64 3)), none, none, true⟩,
          ⟨.pick (.loc 6) (.loc 8) (.k (.bool false)), none, none, true⟩,
          ⟨.move (.loc 9), none, none, true⟩,
          ⟨.move (.var 4), none, none, true⟩,
          ⟨.bin .eql .no (.loc 11) (.k (.int .i64 1)), none, none, true⟩,
          ⟨.pick (.loc 10) (.loc 12) (.k (.bool false)), none, none, true⟩,
          ⟨.move (.loc 13), none, none, true⟩,
          ⟨.move (.var 5), none, none, true⟩,
          ⟨.bin .eql .no (.loc 15) (.k (.int .i64 7)), none, none, true⟩,
          ⟨.pick (.loc 14) (.loc 16) (.k (.bool false)), none, none, true⟩,
          ⟨.move (.loc 17), none, none, true⟩,
          ⟨.field 0 none (.var 6), none, none, true⟩,
          ⟨.field 0 none (.var 6), none, none, true⟩,
          ⟨.bin .eql .no (.loc 20) (.k (.int .i64 0)), none, none, true⟩,
          ⟨.pick (.loc 18) (.loc 21) (.k (.bool false)), none, none, true⟩,
          ⟨.move (.loc 22), none, none, true⟩,
          ⟨.field 0 none (.var 7), none, none, true⟩,
          ⟨.field 0 none (.var 7), none, none, true⟩,
          ⟨.bin .eql .no (.loc 25) (.k (.int .i64 0)), none, none, true⟩,
          ⟨.pick (.loc 23) (.loc 26) (.k (.bool false)), none, none, true⟩,
          ⟨.move (.loc 27), none, none, true⟩,
          ⟨.field 0 none (.var 8), none, none, true⟩,
          ⟨.field 0 none (.var 8), none, none, true⟩,
          ⟨.bin .eql .no (.loc 30) (.k (.int .i64 0)), none, none, true⟩,
          ⟨.pick (.loc 28) (.loc 31) (.k (.bool false)), none, none, true⟩,
          ⟨.move (.loc 32), none, none, true⟩,
          ⟨.field 0 none (.var 9), none, none, true⟩,
          ⟨.field 0 none (.var 9), none, none, true⟩,
          ⟨.bin .eql .no (.loc 35) (.k (.int .i64 0)), none, none, true⟩,
          ⟨.pick (.loc 33) (.loc 36) (.k (.bool false)), none, none, true⟩,
          ⟨.move (.loc 37), none, (some 0), true⟩])
       (.ret)))))))))))))⟩
-- 12 changeforge/canary.Validate vars [0, 2, 1, 28] names [c, c, , , , , , , , , , , , , , , , , , , , , , , , , , , , , ]
def rf12 : RFunc := ⟨1, 4, [.part 1 (some 2)],
 ((.seq (.ops [⟨.tomb 1 (.var 0), none, (some 2), true⟩,
     ⟨.tomb 1 (.k (.agg [.int .i64 0, .int .i64 0])), none, (some 1), true⟩])
  ((.seq ((.seq (.ops [⟨.field 0 none (.var 2), none, none, true⟩,
       ⟨.field 0 none (.var 2), none, none, true⟩,
       ⟨.bin .lss .no (.loc 1) (.k (.int .i64 0)), none, none, true⟩,
       ⟨.move (.loc 2), none, none, true⟩,
       ⟨.field 0 none (.var 2), none, none, true⟩,
       ⟨.field 1 none (.var 2), none, none, true⟩,
       ⟨.bin .lss .no (.loc 5) (.k (.int .i64 0)), none, none, true⟩,
       ⟨.pick (.loc 3) (.k (.bool true)) (.loc 6), none, none, true⟩,
       ⟨.move (.loc 7), none, none, true⟩,
       ⟨.field 0 none (.var 2), none, none, true⟩,
       ⟨.field 0 none (.var 2), none, none, true⟩,
       ⟨.bin .gtr .no (.loc 10) (.k (.int .i64 25)), none, none, true⟩,
       ⟨.pick (.loc 8) (.k (.bool true)) (.loc 11), none, none, true⟩,
       ⟨.move (.loc 12), none, none, true⟩,
       ⟨.field 0 none (.var 2), none, none, true⟩,
       ⟨.field 1 none (.var 2), none, none, true⟩,
       ⟨.bin .gtr .no (.loc 15) (.k (.int .i64 25)), none, none, true⟩,
       ⟨.pick (.loc 13) (.k (.bool true)) (.loc 16), none, none, true⟩,
       ⟨.move (.loc 17), none, none, true⟩,
       ⟨.field 0 none (.var 2), none, none, true⟩,
       ⟨.field 0 none (.var 2), none, none, true⟩,
       ⟨.field 0 none (.var 2), none, none, true⟩,
       ⟨.field 1 none (.var 2), none, none, true⟩,
       ⟨.bin .add .no (.loc 20) (.loc 22), none, none, true⟩,
       ⟨.bin .gtr .no (.loc 23) (.k (.int .i64 25)), none, none, true⟩,
       ⟨.pick (.loc 18) (.k (.bool true)) (.loc 24), none, (some 3), true⟩])
    (.cond (.var 3)
      ((.seq (.ops [⟨.build [.int .i64 0, .int .i64 0] [(0, 1, (.k (.int .i64 3))), (1, 1, (.k (.int .i64 (-1))))], none, none, true⟩,
          ⟨.upd 2 0 (.var 1) (.loc 0), none, (some 1), true⟩])
       (.ret)))
      (.skip))))
   ((.seq (.ops [⟨.build [.int .i64 0, .int .i64 0] [], none, none, true⟩,
       ⟨.upd 2 0 (.var 1) (.loc 0), none, (some 1), true⟩])
    (.ret)))))))⟩
-- 13 changeforge/changeforgeref8.CountsValid vars [0, 2, 1] names [c, c, , , , , , , , , , , , , , , , , , , , , , , , , , , ]
def rf13 : RFunc := ⟨1, 3, [.var 1],
 ((.seq (.ops [⟨.tomb 1 (.var 0), none, (some 2), true⟩,
     ⟨.move (.k (.bool false)), none, (some 1), true⟩])
  ((.seq (.ops [⟨.field 0 none (.var 2), none, none, true⟩,
      ⟨.field 0 none (.var 2), none, none, true⟩,
      ⟨.bin .geq .no (.loc 1) (.k (.int .i64 0)), none, none, true⟩,
      ⟨.move (.loc 2), none, none, true⟩,
      ⟨.field 0 none (.var 2), none, none, true⟩,
      ⟨.field 1 none (.var 2), none, none, true⟩,
      ⟨.bin .geq .no (.loc 5) (.k (.int .i64 0)), none, none, true⟩,
      ⟨.pick (.loc 3) (.loc 6) (.k (.bool false)), none, none, true⟩,
      ⟨.move (.loc 7), none, none, true⟩,
      ⟨.field 0 none (.var 2), none, none, true⟩,
      ⟨.field 0 none (.var 2), none, none, true⟩,
      ⟨.bin .leq .no (.loc 10) (.k (.int .i64 25)), none, none, true⟩,
      ⟨.pick (.loc 8) (.loc 11) (.k (.bool false)), none, none, true⟩,
      ⟨.move (.loc 12), none, none, true⟩,
      ⟨.field 0 none (.var 2), none, none, true⟩,
      ⟨.field 1 none (.var 2), none, none, true⟩,
      ⟨.bin .leq .no (.loc 15) (.k (.int .i64 25)), none, none, true⟩,
      ⟨.pick (.loc 13) (.loc 16) (.k (.bool false)), none, none, true⟩,
      ⟨.move (.loc 17), none, none, true⟩,
      ⟨.field 0 none (.var 2), none, none, true⟩,
      ⟨.field 0 none (.var 2), none, none, true⟩,
      ⟨.field 0 none (.var 2), none, none, true⟩,
      ⟨.field 1 none (.var 2), none, none, true⟩,
      ⟨.bin .add .no (.loc 20) (.loc 22), none, none, true⟩,
      ⟨.bin .leq .no (.loc 23) (.k (.int .i64 25)), none, none, true⟩,
      ⟨.pick (.loc 18) (.loc 24) (.k (.bool false)), none, none, true⟩,
      ⟨.move (.loc 25), none, (some 1), true⟩])
   (.ret)))))⟩
-- 14 changeforge/changeforgeref8.Fault vars [0, 1, 4] names [code, index, code, index, , , , ]
def rf14 : RFunc := ⟨2, 3, [.part 2 (some 2)],
 ((.seq (.ops [⟨.tomb 1 (.k (.agg [.int .i64 0, .int .i64 0])), none, (some 2), true⟩])
  ((.seq (.ops [⟨.move (.var 0), none, none, true⟩,
      ⟨.move (.var 1), none, none, true⟩,
      ⟨.build [.int .i64 0, .int .i64 0] [(0, 1, (.loc 0)), (1, 1, (.loc 1))], none, none, true⟩,
      ⟨.upd 2 0 (.var 2) (.loc 2), none, (some 2), true⟩])
   (.ret)))))⟩
-- 15 changeforge/changeforgelaw8.sidesFault vars [0, 1, 4, 2, 7, 3, 11] names [base, other, base, other, , , , , , , , , , ]
def rf15 : RFunc := ⟨2, 7, [.part 2 (some 2)],
 ((.seq (.ops [⟨.tomb 1 (.var 0), none, (some 3), true⟩,
     ⟨.tomb 1 (.var 1), none, (some 5), true⟩,
     ⟨.tomb 1 (.k (.agg [.int .i64 0, .int .i64 0])), none, (some 2), true⟩])
  ((.seq ((.seq (.ops [⟨.field 0 (some 2) (.var 3), none, none, true⟩,
       ⟨.callS 13 [.loc 0], none, none, true⟩,
       ⟨.un .not (.loc 1), none, (some 4), true⟩])
    (.cond (.var 4)
      ((.seq (.ops [⟨.callS 14 [.k (.int .i64 3), .k (.int .i64 (-1))], none, none, true⟩,
          ⟨.upd 2 0 (.var 2) (.loc 0), none, (some 2), true⟩])
       (.ret)))
      (.skip))))
   ((.seq ((.seq (.ops [⟨.field 0 (some 2) (.var 5), none, none, true⟩,
        ⟨.callS 13 [.loc 0], none, none, true⟩,
        ⟨.un .not (.loc 1), none, (some 6), true⟩])
     (.cond (.var 6)
       ((.seq (.ops [⟨.callS 14 [.k (.int .i64 3), .k (.int .i64 (-2))], none, none, true⟩,
           ⟨.upd 2 0 (.var 2) (.loc 0), none, (some 2), true⟩])
        (.ret)))
       (.skip))))
    ((.seq (.ops [⟨.build [.int .i64 0, .int .i64 0] [], none, none, true⟩,
        ⟨.upd 2 0 (.var 2) (.loc 0), none, (some 2), true⟩])
     (.ret)))))))))⟩
-- 16 changeforge/changeforgeref8.Ways vars [0, 1, 4, 5, 2, 3, 10, 29, 9, 7, 6, 8] names [base, canary, base, canary, , , good, bad, n, fewer, k, , , , , , , , , , , , , , , , , , , , , , , , , , , , , ]
def rf16 : RFunc := ⟨2, 12, [.var 2, .var 3],
 ((.seq (.ops [⟨.tomb 1 (.var 0), none, (some 4), true⟩,
     ⟨.tomb 1 (.var 1), none, (some 5), true⟩,
     ⟨.move (.k (.int .i64 0)), none, (some 2), true⟩,
     ⟨.move (.k (.int .i64 0)), none, (some 3), true⟩])
  ((.seq (.ops [⟨.field 0 none (.var 4), none, none, true⟩,
      ⟨.field 0 none (.var 4), none, none, true⟩,
      ⟨.field 0 none (.var 5), none, none, true⟩,
      ⟨.field 0 none (.var 5), none, none, true⟩,
      ⟨.bin .add .no (.loc 1) (.loc 3), none, none, true⟩,
      ⟨.move (.loc 4), none, (some 10), true⟩])
   ((.seq (.ops [⟨.field 0 none (.var 4), none, none, true⟩,
       ⟨.field 1 none (.var 4), none, none, true⟩,
       ⟨.field 0 none (.var 5), none, none, true⟩,
       ⟨.field 1 none (.var 5), none, none, true⟩,
       ⟨.bin .add .no (.loc 1) (.loc 3), none, none, true⟩,
       ⟨.move (.loc 4), none, (some 9), true⟩])
    ((.seq (.ops [⟨.field 0 none (.var 5), none, none, true⟩,
        ⟨.field 0 none (.var 5), none, none, true⟩,
        ⟨.field 0 none (.var 5), none, none, true⟩,
        ⟨.field 1 none (.var 5), none, none, true⟩,
        ⟨.bin .add .no (.loc 1) (.loc 3), none, none, true⟩,
        ⟨.move (.loc 4), none, (some 11), true⟩])
     ((.seq (.ops [⟨.move (.k (.int .i64 0)), none, (some 8), true⟩])
      ((.seq ((.seq (.ops [⟨.move (.k (.int .i64 0)), none, (some 6), true⟩])
        (.block 0
          (.loop
           ((.seq ((.seq (.ops [⟨.move (.var 6), none, none, true⟩,
               ⟨.field 0 none (.var 5), none, none, true⟩,
               ⟨.field 1 none (.var 5), none, none, true⟩,
               ⟨.bin .lss .no (.loc 0) (.loc 2), none, (some 7), true⟩])
            (.cond (.var 7)
              (.skip)
              (.exit 0))))
           ((.seq (.block 1
              (.ops [⟨.move (.var 8), none, none, true⟩,
                ⟨.move (.var 9), none, none, true⟩,
                ⟨.move (.var 6), none, none, true⟩,
                ⟨.callS 20 [.loc 1, .loc 2], none, none, true⟩,
                ⟨.move (.var 10), none, none, true⟩,
                ⟨.move (.var 11), none, none, true⟩,
                ⟨.move (.var 6), none, none, true⟩,
                ⟨.bin .sub .no (.loc 5) (.loc 6), none, none, true⟩,
                ⟨.callS 20 [.loc 4, .loc 7], none, none, true⟩,
                ⟨.bin .mul .no (.loc 3) (.loc 8), none, none, true⟩,
                ⟨.bin .add .no (.loc 0) (.loc 9), none, none, true⟩,
                ⟨.move (.loc 10), none, (some 8), true⟩]))
            (.ops [⟨.move (.var 6), none, none, true⟩,
               ⟨.bin .add .no (.loc 0) (.k (.int .i64 1)), none, none, true⟩,
               ⟨.move (.loc 1), none, (some 6), true⟩])))))))))
       ((.seq (.ops [⟨.move (.var 8), none, none, true⟩,
           ⟨.move (.var 10), none, none, true⟩,
           ⟨.move (.var 9), none, none, true⟩,
           ⟨.bin .add .no (.loc 1) (.loc 2), none, none, true⟩,
           ⟨.move (.var 11), none, none, true⟩,
           ⟨.callS 20 [.loc 3, .loc 4], none, none, true⟩,
           ⟨.move (.loc 0), none, (some 2), true⟩,
           ⟨.move (.loc 5), none, (some 3), true⟩])
        (.ret)))))))))))))))⟩
-- 17 changeforge/changeforgeref8.Verdict vars [0, 1, 2, 3, 8, 4, 5, 10, 9, 24, 31] names [base, canary, need, perMille, base, canary, need, perMille, , fewer, all, , , , , , , , , , , , , , , , , , , , , ]
def rf17 : RFunc := ⟨4, 11, [.var 4],
 ((.seq (.ops [⟨.tomb 1 (.var 0), none, (some 5), true⟩,
     ⟨.tomb 1 (.var 1), none, (some 6), true⟩,
     ⟨.move (.k (.int .i64 0)), none, (some 4), true⟩])
  ((.seq (.ops [⟨.field 0 (some 2) (.var 5), none, none, true⟩,
      ⟨.field 0 (some 2) (.var 6), none, none, true⟩,
      ⟨.callS 16 [.loc 0, .loc 1], none, none, true⟩,
      ⟨.move (.loc 2), none, none, true⟩,
      ⟨.extract (.loc 3) 0, none, none, true⟩,
      ⟨.extract (.loc 3) 1, none, none, true⟩,
      ⟨.move (.loc 4), none, (some 8), true⟩,
      ⟨.move (.loc 5), none, (some 7), true⟩])
   ((.seq ((.seq (.ops [⟨.move (.var 7), none, none, true⟩,
        ⟨.move (.var 8), none, none, true⟩,
        ⟨.bin .sub .no (.loc 0) (.loc 1), none, none, true⟩,
        ⟨.bin .mul .no (.loc 2) (.k (.int .i64 1000)), none, none, true⟩,
        ⟨.move (.var 7), none, none, true⟩,
        ⟨.move (.var 3), none, none, true⟩,
        ⟨.bin .mul .no (.loc 4) (.loc 5), none, none, true⟩,
        ⟨.bin .leq .no (.loc 3) (.loc 6), none, (some 9), true⟩])
     (.cond (.var 9)
       ((.seq (.ops [⟨.move (.k (.int .i64 3)), none, (some 4), true⟩])
        (.ret)))
       (.skip))))
    ((.seq ((.seq (.ops [⟨.field 0 none (.var 6), none, none, true⟩,
         ⟨.field 0 none (.var 6), none, none, true⟩,
         ⟨.field 0 none (.var 6), none, none, true⟩,
         ⟨.field 1 none (.var 6), none, none, true⟩,
         ⟨.bin .add .no (.loc 1) (.loc 3), none, none, true⟩,
         ⟨.move (.var 2), none, none, true⟩,
         ⟨.bin .lss .no (.loc 4) (.loc 5), none, (some 10), true⟩])
      (.cond (.var 10)
        ((.seq (.ops [⟨.move (.k (.int .i64 1)), none, (some 4), true⟩])
         (.ret)))
        (.skip))))
     ((.seq (.ops [⟨.move (.k (.int .i64 2)), none, (some 4), true⟩])
      (.ret)))))))))))⟩
-- 18 changeforge/canary.two vars [0, 1, 4, 2, 5, 11, 3, 6, 17] names [base, canary, base, canary, , f, f, , , , , , , , , , , , , , , ]
def rf18 : RFunc := ⟨2, 9, [.part 2 (some 2)],
 ((.seq (.ops [⟨.tomb 1 (.var 0), none, (some 3), true⟩,
     ⟨.tomb 1 (.var 1), none, (some 6), true⟩,
     ⟨.tomb 1 (.k (.agg [.int .i64 0, .int .i64 0])), none, (some 2), true⟩])
  ((.seq ((.seq (.ops [⟨.field 0 (some 2) (.var 3), none, none, true⟩,
       ⟨.callS 12 [.loc 0], none, none, true⟩,
       ⟨.tomb 1 (.k (.agg [.int .i64 0, .int .i64 0])), none, (some 4), true⟩,
       ⟨.upd 2 0 (.loc 2) (.loc 1), none, (some 4), true⟩])
    ((.seq (.ops [⟨.field 0 (some 2) (.var 4), none, none, true⟩,
        ⟨.build [.int .i64 0, .int .i64 0] [], none, none, true⟩,
        ⟨.bin .neq (.agg [.int, .int]) (.loc 0) (.loc 1), none, (some 5), true⟩])
     (.cond (.var 5)
       ((.seq (.ops [⟨.field 0 (some 2) (.var 4), none, none, true⟩,
           ⟨.upd 2 0 (.var 2) (.loc 0), none, (some 2), true⟩])
        (.ret)))
       (.skip))))))
   ((.seq ((.seq (.ops [⟨.field 0 (some 2) (.var 6), none, none, true⟩,
        ⟨.callS 12 [.loc 0], none, none, true⟩,
        ⟨.tomb 1 (.k (.agg [.int .i64 0, .int .i64 0])), none, (some 7), true⟩,
        ⟨.upd 2 0 (.loc 2) (.loc 1), none, (some 7), true⟩])
     ((.seq (.ops [⟨.field 0 (some 2) (.var 7), none, none, true⟩,
         ⟨.build [.int .i64 0, .int .i64 0] [], none, none, true⟩,
         ⟨.bin .neq (.agg [.int, .int]) (.loc 0) (.loc 1), none, (some 8), true⟩])
      (.cond (.var 8)
        ((.seq (.ops [⟨.field 0 none (.var 7), none, none, true⟩,
            ⟨.field 0 none (.var 7), none, none, true⟩,
            ⟨.build [.int .i64 0, .int .i64 0] [(0, 1, (.loc 1)), (1, 1, (.k (.int .i64 (-2))))], none, none, true⟩,
            ⟨.upd 2 0 (.var 2) (.loc 2), none, (some 2), true⟩])
         (.ret)))
        (.skip))))))
    ((.seq (.ops [⟨.build [.int .i64 0, .int .i64 0] [], none, none, true⟩,
        ⟨.upd 2 0 (.var 2) (.loc 0), none, (some 2), true⟩])
     (.ret)))))))))⟩
-- 19 changeforge/canary.tail vars [0, 1, 4, 5, 3, 2, 10, 6, 8, 36, 7, 44, 9] names [base, canary, base, canary, , , n, good, bad, ways, k, , , , , , , , , , , , , , , , , , , , , , , , , , , , , ]
def rf19 : RFunc := ⟨2, 13, [.var 2, .var 3],
 ((.seq (.ops [⟨.tomb 1 (.var 0), none, (some 5), true⟩,
     ⟨.tomb 1 (.var 1), none, (some 4), true⟩,
     ⟨.move (.k (.int .i64 0)), none, (some 2), true⟩,
     ⟨.move (.k (.int .i64 0)), none, (some 3), true⟩])
  ((.seq (.ops [⟨.field 0 none (.var 4), none, none, true⟩,
      ⟨.field 0 none (.var 4), none, none, true⟩,
      ⟨.field 0 none (.var 4), none, none, true⟩,
      ⟨.field 1 none (.var 4), none, none, true⟩,
      ⟨.bin .add .no (.loc 1) (.loc 3), none, none, true⟩,
      ⟨.move (.loc 4), none, (some 7), true⟩])
   ((.seq (.ops [⟨.field 0 none (.var 5), none, none, false⟩,
       ⟨.field 0 none (.var 5), none, none, false⟩,
       ⟨.field 0 none (.var 4), none, none, false⟩,
       ⟨.field 0 none (.var 4), none, none, false⟩,
       ⟨.bin .add .no (.loc 1) (.loc 3), none, none, false⟩,
       ⟨.callS 21 [.loc 4], none, none, false⟩,
       ⟨.field 0 none (.var 5), none, none, false⟩,
       ⟨.field 1 none (.var 5), none, none, false⟩,
       ⟨.field 0 none (.var 4), none, none, false⟩,
       ⟨.field 1 none (.var 4), none, none, false⟩,
       ⟨.bin .add .no (.loc 7) (.loc 9), none, none, false⟩,
       ⟨.callS 21 [.loc 10], none, none, true⟩,
       ⟨.move (.loc 5), none, (some 10), true⟩,
       ⟨.move (.loc 11), none, (some 8), true⟩])
    ((.seq (.ops [⟨.move (.k (.int .i64 0)), none, (some 12), true⟩])
     ((.seq ((.seq (.ops [⟨.field 0 none (.var 4), none, none, true⟩,
          ⟨.field 1 none (.var 4), none, none, true⟩,
          ⟨.move (.loc 1), none, (some 6), true⟩])
       (.block 0
         (.loop
          ((.seq ((.seq (.ops [⟨.move (.var 6), none, none, true⟩,
              ⟨.move (.var 7), none, none, true⟩,
              ⟨.move (.var 8), none, none, true⟩,
              ⟨.len (.loc 2), none, none, true⟩,
              ⟨.bin .sub .no (.loc 3) (.k (.int .i64 1)), none, none, true⟩,
              ⟨.min (.loc 1) [.loc 4], none, none, true⟩,
              ⟨.bin .leq .no (.loc 0) (.loc 5), none, (some 9), true⟩])
           (.cond (.var 9)
             (.skip)
             (.exit 0))))
          ((.seq (.block 1
             ((.seq (.ops [⟨.move (.var 7), none, none, true⟩,
                ⟨.move (.var 6), none, none, true⟩,
                ⟨.bin .sub .no (.loc 0) (.loc 1), none, none, true⟩,
                ⟨.move (.var 10), none, none, true⟩,
                ⟨.len (.loc 3), none, none, true⟩,
                ⟨.bin .lss .no (.loc 2) (.loc 4), none, (some 11), true⟩])
             (.cond (.var 11)
               (.ops [⟨.move (.var 12), none, none, false⟩,
                  ⟨.move (.var 8), none, none, false⟩,
                  ⟨.move (.var 6), none, none, false⟩,
                  ⟨.indexAddr 1 (.loc 1) (.loc 2), none, none, false⟩,
                  ⟨.load none (.loc 3), none, none, false⟩,
                  ⟨.move (.var 10), none, none, false⟩,
                  ⟨.move (.var 7), none, none, false⟩,
                  ⟨.move (.var 6), none, none, false⟩,
                  ⟨.bin .sub .no (.loc 6) (.loc 7), none, none, false⟩,
                  ⟨.indexAddr 1 (.loc 5) (.loc 8), none, none, false⟩,
                  ⟨.load none (.loc 9), none, none, false⟩,
                  ⟨.bin .mul .no (.loc 4) (.loc 10), none, none, true⟩,
                  ⟨.bin .add .no (.loc 0) (.loc 11), none, none, true⟩,
                  ⟨.move (.loc 12), none, (some 12), true⟩])
               (.skip)))))
           (.ops [⟨.move (.var 6), none, none, true⟩,
              ⟨.bin .add .no (.loc 0) (.k (.int .i64 1)), none, none, true⟩,
              ⟨.move (.loc 1), none, (some 6), true⟩])))))))))
      ((.seq (.ops [⟨.move (.var 12), none, none, false⟩,
          ⟨.move (.var 10), none, none, true⟩,
          ⟨.len (.loc 1), none, none, true⟩,
          ⟨.move (.var 8), none, none, true⟩,
          ⟨.len (.loc 3), none, none, true⟩,
          ⟨.bin .add .no (.loc 2) (.loc 4), none, none, true⟩,
          ⟨.bin .sub .no (.loc 5) (.k (.int .i64 2)), none, none, true⟩,
          ⟨.callS 21 [.loc 6], none, none, true⟩,
          ⟨.move (.var 7), none, none, false⟩,
          ⟨.indexAddr 1 (.loc 7) (.loc 8), none, none, true⟩,
          ⟨.load none (.loc 9), none, none, true⟩,
          ⟨.move (.loc 0), none, (some 2), false⟩,
          ⟨.move (.loc 10), none, (some 3), true⟩])
       (.ret)))))))))))))⟩
-- 20 changeforge/changeforgeref8.Choose vars [0, 1, 4, 14, 5, 6, 22, 7, 28] names [n, k, n, k, , row, i, j, , , , , , , , , , , , , , , , , , , , , , , , , , , , , , , , ]
def rf20 : RFunc := ⟨2, 9, [.var 2],
 ((.seq (.ops [⟨.move (.k (.int .i64 0)), none, (some 2), true⟩])
  ((.seq ((.seq (.ops [⟨.move (.var 1), none, none, true⟩,
       ⟨.bin .lss .no (.loc 0) (.k (.int .i64 0)), none, none, true⟩,
       ⟨.move (.loc 1), none, none, true⟩,
       ⟨.move (.var 1), none, none, true⟩,
       ⟨.move (.var 0), none, none, true⟩,
       ⟨.bin .gtr .no (.loc 3) (.loc 4), none, none, true⟩,
       ⟨.pick (.loc 2) (.k (.bool true)) (.loc 5), none, (some 3), true⟩])
    (.cond (.var 3)
      ((.seq (.ops [⟨.move (.k (.int .i64 0)), none, (some 2), true⟩])
       (.ret)))
      (.skip))))
   ((.seq (.ops [⟨.move (.var 0), none, none, true⟩,
       ⟨.bin .add .no (.loc 0) (.k (.int .i64 1)), none, none, true⟩,
       ⟨.makeSlice 1 8 [.int .i64 0] (.loc 1) (.loc 1), none, none, true⟩,
       ⟨.move (.loc 2), none, (some 4), true⟩])
    ((.seq (.ops [⟨.move (.var 4), none, none, true⟩,
        ⟨.indexAddr 1 (.loc 0) (.k (.int .i64 0)), none, none, true⟩,
        ⟨.store 1 (.loc 1) (.k (.int .i64 1)) [], none, none, true⟩])
     ((.seq ((.seq (.ops [⟨.move (.k (.int .i64 0)), none, (some 5), true⟩])
       (.block 0
         (.loop
          ((.seq ((.seq (.ops [⟨.move (.var 5), none, none, true⟩,
              ⟨.move (.var 0), none, none, true⟩,
              ⟨.bin .lss .no (.loc 0) (.loc 1), none, (some 6), true⟩])
           (.cond (.var 6)
             (.skip)
             (.exit 0))))
          ((.seq (.block 1
             ((.seq (.ops [⟨.move (.var 5), none, none, true⟩,
                ⟨.bin .add .no (.loc 0) (.k (.int .i64 1)), none, none, true⟩,
                ⟨.move (.loc 1), none, (some 7), true⟩])
             (.block 2
               (.loop
                ((.seq ((.seq (.ops [⟨.move (.var 7), none, none, true⟩,
                    ⟨.bin .gtr .no (.loc 0) (.k (.int .i64 0)), none, (some 8), true⟩])
                 (.cond (.var 8)
                   (.skip)
                   (.exit 2))))
                ((.seq (.block 3
                   (.ops [⟨.move (.var 4), none, none, false⟩,
                     ⟨.move (.var 7), none, none, false⟩,
                     ⟨.indexAddr 1 (.loc 0) (.loc 1), none, none, false⟩,
                     ⟨.load none (.loc 2), none, none, false⟩,
                     ⟨.move (.var 4), none, none, false⟩,
                     ⟨.move (.var 7), none, none, false⟩,
                     ⟨.bin .sub .no (.loc 5) (.k (.int .i64 1)), none, none, false⟩,
                     ⟨.indexAddr 1 (.loc 4) (.loc 6), none, none, false⟩,
                     ⟨.load none (.loc 7), none, none, false⟩,
                     ⟨.bin .add .no (.loc 3) (.loc 8), none, none, true⟩,
                     ⟨.indexAddr 1 (.loc 0) (.loc 1), none, none, true⟩,
                     ⟨.store 1 (.loc 10) (.loc 9) [], none, none, true⟩]))
                 (.ops [⟨.move (.var 7), none, none, true⟩,
                    ⟨.bin .sub .no (.loc 0) (.k (.int .i64 1)), none, none, true⟩,
                    ⟨.move (.loc 1), none, (some 7), true⟩]))))))))))
           (.ops [⟨.move (.var 5), none, none, true⟩,
              ⟨.bin .add .no (.loc 0) (.k (.int .i64 1)), none, none, true⟩,
              ⟨.move (.loc 1), none, (some 5), true⟩])))))))))
      ((.seq (.ops [⟨.move (.var 4), none, none, true⟩,
          ⟨.move (.var 1), none, none, true⟩,
          ⟨.indexAddr 1 (.loc 0) (.loc 1), none, none, true⟩,
          ⟨.load none (.loc 2), none, none, true⟩,
          ⟨.move (.loc 3), none, (some 2), true⟩])
       (.ret)))))))))))))⟩
-- 21 changeforge/canary.row vars [0, 2, 3, 11, 10, 12, 4] names [n, n, , out, k, , , , , , , , , , , , , , , , , , , , , , , , , , ]
def rf21 : RFunc := ⟨1, 7, [.var 1],
 ((.seq (.ops [⟨.move (.k (.empty)), none, (some 1), true⟩])
  ((.seq (.ops [⟨.move (.var 0), none, none, true⟩,
      ⟨.bin .add .no (.loc 0) (.k (.int .i64 1)), none, none, true⟩,
      ⟨.makeSlice 1 8 [.int .i64 0] (.loc 1) (.loc 1), none, none, true⟩,
      ⟨.move (.loc 2), none, (some 2), true⟩])
   ((.seq (.ops [⟨.move (.var 2), none, none, true⟩,
       ⟨.indexAddr 1 (.loc 0) (.k (.int .i64 0)), none, none, true⟩,
       ⟨.store 1 (.loc 1) (.k (.int .i64 1)) [], none, none, true⟩])
    ((.seq ((.seq (.ops [⟨.move (.var 0), none, (some 4), true⟩,
         ⟨.move (.k (.int .i64 0)), none, (some 3), true⟩])
      (.block 0
        (.loop
         ((.seq (.ops [⟨.bin .lss .no (.var 3) (.var 4), none, (some 5), true⟩])
         ((.seq (.cond (.var 5)
            (.skip)
            (.exit 0))
          ((.seq (.block 1
             ((.seq (.ops [⟨.move (.var 3), none, none, true⟩,
                ⟨.move (.loc 0), none, (some 6), true⟩])
             (.ops [⟨.move (.var 2), none, none, true⟩,
                ⟨.move (.var 6), none, none, true⟩,
                ⟨.bin .add .no (.loc 1) (.k (.int .i64 1)), none, none, true⟩,
                ⟨.move (.var 2), none, none, true⟩,
                ⟨.move (.var 6), none, none, true⟩,
                ⟨.indexAddr 1 (.loc 3) (.loc 4), none, none, true⟩,
                ⟨.load none (.loc 5), none, none, true⟩,
                ⟨.move (.var 0), none, none, true⟩,
                ⟨.move (.var 6), none, none, true⟩,
                ⟨.bin .sub .no (.loc 7) (.loc 8), none, none, true⟩,
                ⟨.bin .mul .no (.loc 6) (.loc 9), none, none, true⟩,
                ⟨.move (.var 6), none, none, true⟩,
                ⟨.bin .add .no (.loc 11) (.k (.int .i64 1)), none, none, true⟩,
                ⟨.bin .quo .no (.loc 10) (.loc 12), none, none, true⟩,
                ⟨.indexAddr 1 (.loc 0) (.loc 2), none, none, true⟩,
                ⟨.store 1 (.loc 14) (.loc 13) [], none, none, true⟩]))))
           (.ops [⟨.bin .add .no (.var 3) (.k (.int .i64 1)), none, none, true⟩,
              ⟨.move (.loc 0), none, (some 3), true⟩])))))))))))
     ((.seq (.ops [⟨.move (.var 2), none, none, true⟩,
         ⟨.move (.loc 0), none, (some 1), true⟩])
      (.ret)))))))))))⟩
theorem t3 : tableU Try.prog 3 = some rf3 := by kernel_rfl
theorem t4 : tableU Try.prog 4 = some rf4 := by kernel_rfl
theorem t5 : tableU Try.prog 5 = some rf5 := by kernel_rfl
theorem t6 : tableU Try.prog 6 = some rf6 := by kernel_rfl
theorem t7 : tableU Try.prog 7 = some rf7 := by kernel_rfl
theorem t8 : tableU Try.prog 8 = some rf8 := by kernel_rfl
theorem t9 : tableU Try.prog 9 = some rf9 := by kernel_rfl
theorem t10 : tableU Try.prog 10 = some rf10 := by kernel_rfl
theorem t11 : tableU Try.prog 11 = some rf11 := by kernel_rfl
theorem t12 : tableU Try.prog 12 = some rf12 := by kernel_rfl
theorem t13 : tableU Try.prog 13 = some rf13 := by kernel_rfl
theorem t14 : tableU Try.prog 14 = some rf14 := by kernel_rfl
theorem t15 : tableU Try.prog 15 = some rf15 := by kernel_rfl
theorem t16 : tableU Try.prog 16 = some rf16 := by kernel_rfl
theorem t17 : tableU Try.prog 17 = some rf17 := by kernel_rfl
theorem t18 : tableU Try.prog 18 = some rf18 := by kernel_rfl
theorem t19 : tableU Try.prog 19 = some rf19 := by kernel_rfl
theorem t20 : tableU Try.prog 20 = some rf20 := by kernel_rfl
theorem t21 : tableU Try.prog 21 = some rf21 := by kernel_rfl
end Go.Proofs.Ytebpodfildpgbaa
