/-
  Functions of the program as the abstract machine runs them, and what must be shown of a run: printed by RmPrint.
-/
import Derived.Test.YtknhokihjigpiaaRmVc
namespace Go.RM
set_option linter.unusedVariables false
set_option maxRecDepth 4000
-- LBatchbisectMinimalIsMinimal
def rf_LBatchbisectMinimalIsMinimal (nbatchbisect_Minimal nLbisectExample nbatchbisect_Fails nFWithout : Nat) : RFunc := ⟨2, 14, [.var 2],
 ((.seq (.ops [⟨.move (.k (.bool false)), none, (some 2), true⟩])
 ((.seq (.ops [⟨.move (.var 0), none, none, true⟩, ⟨.move (.var 1), none, none, true⟩, ⟨.callS nbatchbisect_Minimal [(.loc 0), (.loc 1)], none, none, true⟩, ⟨.move (.loc 2), none, none, true⟩, ⟨.extract (.loc 3) 0, none, none, true⟩, ⟨.extract (.loc 3) 1, none, none, true⟩, ⟨.tomb 1 (.k (.agg [.int .i64 0, .int .i64 0])), none, (some 4), true⟩, ⟨.move (.loc 4), none, (some 6), true⟩, ⟨.upd 2 0 (.loc 6) (.loc 5), none, (some 4), true⟩])
 ((.seq ((.seq (.ops [⟨.callS nLbisectExample [], none, none, true⟩, ⟨.un .not (.loc 0), none, (some 3), true⟩])
 (.cond (.var 3) ((.seq (.ops [⟨.move (.k (.bool false)), none, (some 2), true⟩])
 (.ret))) (.skip))))
 ((.seq ((.seq (.ops [⟨.field 0 none (.var 4), none, none, true⟩, ⟨.field 0 none (.var 4), none, none, true⟩, ⟨.bin .neq .no (.loc 1) (.k (.int .i64 0)), none, (some 5), true⟩])
 (.cond (.var 5) ((.seq (.ops [⟨.move (.k (.bool true)), none, (some 2), true⟩])
 (.ret))) (.skip))))
 ((.seq (.ops [⟨.move (.var 0), none, none, true⟩, ⟨.move (.var 1), none, none, true⟩, ⟨.move (.var 6), none, none, true⟩, ⟨.callS nbatchbisect_Fails [(.loc 0), (.loc 1), (.loc 2)], none, none, true⟩, ⟨.move (.loc 3), none, none, true⟩, ⟨.extract (.loc 4) 0, none, none, true⟩, ⟨.extract (.loc 4) 1, none, none, true⟩, ⟨.tomb 1 (.k (.agg [.int .i64 0, .int .i64 0])), none, (some 12), true⟩, ⟨.move (.loc 5), none, (some 13), true⟩, ⟨.upd 2 0 (.loc 7) (.loc 6), none, (some 12), true⟩])
 ((.seq ((.seq (.ops [⟨.move (.k (.int .i64 0)), none, (some 7), true⟩])
 (.block 0 (.loop ((.seq ((.seq (.ops [⟨.move (.var 7), none, none, true⟩, ⟨.move (.var 6), none, none, true⟩, ⟨.len (.loc 1), none, none, true⟩, ⟨.bin .lss .no (.loc 0) (.loc 2), none, (some 8), true⟩])
 (.cond (.var 8) (.skip) (.exit 0))))
 ((.seq (.block 1 ((.seq (.ops [⟨.move (.var 0), none, none, true⟩, ⟨.move (.var 1), none, none, true⟩, ⟨.move (.var 6), none, none, true⟩, ⟨.move (.var 6), none, none, true⟩, ⟨.move (.var 7), none, none, true⟩, ⟨.indexAddr 1 (.loc 3) (.loc 4), none, none, true⟩, ⟨.load none (.loc 5), none, none, true⟩, ⟨.callS nFWithout [(.loc 2), (.loc 6)], none, none, true⟩, ⟨.callS nbatchbisect_Fails [(.loc 0), (.loc 1), (.loc 7)], none, none, true⟩, ⟨.move (.loc 8), none, none, true⟩, ⟨.extract (.loc 9) 0, none, none, true⟩, ⟨.extract (.loc 9) 1, none, none, true⟩, ⟨.tomb 1 (.k (.agg [.int .i64 0, .int .i64 0])), none, (some 9), true⟩, ⟨.move (.loc 10), none, (some 10), true⟩, ⟨.upd 2 0 (.loc 12) (.loc 11), none, (some 9), true⟩])
 ((.seq (.ops [⟨.field 0 none (.var 9), none, none, true⟩, ⟨.field 0 none (.var 9), none, none, true⟩, ⟨.bin .neq .no (.loc 1) (.k (.int .i64 0)), none, none, true⟩, ⟨.move (.loc 2), none, none, true⟩, ⟨.move (.var 10), none, none, true⟩, ⟨.pick (.loc 3) (.k (.bool true)) (.loc 4), none, (some 11), true⟩])
 (.cond (.var 11) ((.seq (.ops [⟨.move (.k (.bool false)), none, (some 2), true⟩])
 (.ret))) (.skip)))))))
 (.ops [⟨.move (.var 7), none, none, true⟩, ⟨.bin .add .no (.loc 0) (.k (.int .i64 1)), none, none, true⟩, ⟨.move (.loc 1), none, (some 7), true⟩])))))))))
 ((.seq (.ops [⟨.field 0 none (.var 12), none, none, true⟩, ⟨.field 0 none (.var 12), none, none, true⟩, ⟨.bin .eql .no (.loc 1) (.k (.int .i64 0)), none, none, true⟩, ⟨.move (.loc 2), none, none, true⟩, ⟨.move (.var 13), none, none, true⟩, ⟨.pick (.loc 3) (.loc 4) (.k (.bool false)), none, none, true⟩, ⟨.move (.loc 5), none, none, true⟩, ⟨.move (.var 6), none, none, true⟩, ⟨.len (.loc 7), none, none, true⟩, ⟨.bin .gtr .no (.loc 8) (.k (.int .i64 0)), none, none, true⟩, ⟨.pick (.loc 6) (.loc 9) (.k (.bool false)), none, none, true⟩, ⟨.move (.loc 10), none, (some 2), true⟩])
 (.ret)))))))))))))))⟩
theorem v_LBatchbisectMinimalIsMinimal {F : Nat → Option RFunc} {me nbatchbisect_Minimal nLbisectExample nbatchbisect_Fails nFWithout : Nat} (hF : F me = some (rf_LBatchbisectMinimalIsMinimal nbatchbisect_Minimal nLbisectExample nbatchbisect_Fails nFWithout)) {fl : Nat} {H : Heap} {Q : AV → Heap → Prop} (n0 : Int) (culprits1 : AV)
  (h : Ret F fl nbatchbisect_Minimal [(.int .i64 n0), culprits1] H (fun v6 H5 => ∃ (r2 : AV) (r3 : Int) (r4 : Int), v6 = (.tuple [r2, (.agg [(.int .i64 r3), (.int .i64 r4)])]) ∧ ∀ (H7 : Heap), Dead1 H5 1 H7 → Ret F fl nLbisectExample [] H7 (fun v10 H9 => ∃ (r8 : Bool), v10 = (.bool r8) ∧ ((¬(r8 = true)) → Q (.bool false) H9) ∧ (¬(¬(r8 = true)) → ((r3 ≠ 0) → Q (.bool true) H9) ∧ (¬(r3 ≠ 0) → Ret F fl nbatchbisect_Fails [(.int .i64 n0), culprits1, r2] H9 (fun v15 H14 => ∃ (r11 : Bool) (r12 : Int) (r13 : Int), v15 = (.tuple [(.bool r11), (.agg [(.int .i64 r12), (.int .i64 r13)])]) ∧ ∀ (H16 : Heap), Dead1 H14 1 H16 → ∃ (J17 : Nat → Int → Heap → Prop) (k18 : Nat), J17 k18 0 H16 ∧ (∀ (m19 : Nat) (i21 : Int) (H26 : Heap), J17 m19 i21 H26 → ∃ len27 : Nat, lenA r2 = some len27 ∧ ((i21 < (len27 : Int)) → ∃ (e28 : Int), getA H26 1 none r2 i21 0 = some (.int .i64 e28) ∧ Ret F fl nFWithout [r2, (.int .i64 e28)] H26 (fun r30 H31 => Ret F fl nbatchbisect_Fails [(.int .i64 n0), culprits1, r30] H31 (fun v37 H36 => ∃ (r33 : Bool) (r34 : Int) (r35 : Int), v37 = (.tuple [(.bool r33), (.agg [(.int .i64 r34), (.int .i64 r35)])]) ∧ ∀ (H38 : Heap), Dead1 H36 1 H38 → ((((r34 ≠ 0) ∨ (r33 = true))) → Q (.bool false) H38) ∧ (¬(((r34 ≠ 0) ∨ (r33 = true))) → ∃ m39 : Nat, m39 < m19 ∧ J17 m39 (IntKind.wrap .i64 (i21 + 1)) H38)))) ∧ (¬(i21 < (len27 : Int)) → ∃ len40 : Nat, lenA r2 = some len40 ∧ Q (.bool (((r12 == 0) && r11) && (decide ((len40 : Int) > 0)))) H26)))))))) : Ret F fl me [(.int .i64 n0), culprits1] H Q := by
  refine ret_intro hF rfl ?_
  refine w_seq ?_
  refine w_run [0] ?_
  refine t_done [(.int .i64 n0), culprits1, (.bool false), .undef, .undef, .undef, .undef, .undef, .undef, .undef, .undef, .undef, .undef, .undef] H (by kernel_rfl) ?_
  refine then_norm ?_
  refine w_seq ?_
  refine w_run [0, 0, 1, 0, 0, 0, 1, 0, 1] ?_
  refine t_call true nbatchbisect_Minimal [(.int .i64 n0), culprits1] H (by kernel_rfl) h ?_
  clear h
  rintro _ H5 ⟨r2, r3, r4, rfl, h⟩
  obtain ⟨H7, hb⟩ : ∃ H', Dead1 H5 1 H' := ⟨_, ⟨rfl⟩⟩
  replace h := h H7 hb
  refine t_tomb true 1 (.agg [(.int .i64 0), (.int .i64 0)]) [(.int .i64 0), (.int .i64 0)] H7 H5 (by kernel_rfl) rfl hb ?_
  refine t_upd true 2 0 [(.int .i64 0), (.int .i64 0)] (.agg [(.int .i64 r3), (.int .i64 r4)]) [(.int .i64 r3), (.int .i64 r4)] [(.int .i64 r3), (.int .i64 r4)] H7 (by kernel_rfl) rfl (all_c rfl (all_c rfl all_n)) ⟨rfl, Nat.le_of_ble_eq_true (by kernel_rfl), rfl⟩ ?_
  refine t_done [(.int .i64 n0), culprits1, (.bool false), .undef, (.agg [(.int .i64 r3), (.int .i64 r4)]), .undef, r2, .undef, .undef, .undef, .undef, .undef, .undef, .undef] H7 (by kernel_rfl) ?_
  refine then_norm ?_
  refine w_seq ?_
  refine w_seq ?_
  refine w_run [1, 0] ?_
  refine t_call true nLbisectExample [] H7 (by kernel_rfl) h ?_
  clear h
  rintro _ H9 ⟨r8, rfl, h⟩
  refine t_done [(.int .i64 n0), culprits1, (.bool false), (.bool (!r8)), (.agg [(.int .i64 r3), (.int .i64 r4)]), .undef, r2, .undef, .undef, .undef, .undef, .undef, .undef, .undef] H9 (by kernel_rfl) ?_
  refine then_norm ?_
  refine w_cond (t := (!r8)) rfl (fun hc => ?_) (fun hc => ?_)
  · replace h := h.1 ((is_not is_raw).t hc)
    refine w_seq ?_
    refine w_run [0] ?_
    refine t_done [(.int .i64 n0), culprits1, (.bool false), (.bool (!r8)), (.agg [(.int .i64 r3), (.int .i64 r4)]), .undef, r2, .undef, .undef, .undef, .undef, .undef, .undef, .undef] H9 (by kernel_rfl) ?_
    refine then_norm ?_
    refine w_ret ?_
    refine then_ret ?_
    exact body_ret (vs := [(.bool false)]) _ (by kernel_rfl) rfl h
  · replace h := h.2 ((is_not is_raw).f hc)
    refine w_skip ?_
    refine then_norm ?_
    refine w_seq ?_
    refine w_seq ?_
    refine w_run [0, 0, 0] ?_
    refine t_done [(.int .i64 n0), culprits1, (.bool false), (.bool (!r8)), (.agg [(.int .i64 r3), (.int .i64 r4)]), (.bool (r3 != 0)), r2, .undef, .undef, .undef, .undef, .undef, .undef, .undef] H9 (by kernel_rfl) ?_
    refine then_norm ?_
    refine w_cond (t := (r3 != 0)) rfl (fun hc => ?_) (fun hc => ?_)
    · replace h := h.1 (is_ne.t hc)
      refine w_seq ?_
      refine w_run [0] ?_
      refine t_done [(.int .i64 n0), culprits1, (.bool true), (.bool (!r8)), (.agg [(.int .i64 r3), (.int .i64 r4)]), (.bool (r3 != 0)), r2, .undef, .undef, .undef, .undef, .undef, .undef, .undef] H9 (by kernel_rfl) ?_
      refine then_norm ?_
      refine w_ret ?_
      refine then_ret ?_
      exact body_ret (vs := [(.bool true)]) _ (by kernel_rfl) rfl h
    · replace h := h.2 (is_ne.f hc)
      refine w_skip ?_
      refine then_norm ?_
      refine w_seq ?_
      refine w_run [0, 0, 0, 1, 0, 0, 0, 1, 0, 1] ?_
      refine t_call true nbatchbisect_Fails [(.int .i64 n0), culprits1, r2] H9 (by kernel_rfl) h ?_
      clear h
      rintro _ H14 ⟨r11, r12, r13, rfl, h⟩
      obtain ⟨H16, hb⟩ : ∃ H', Dead1 H14 1 H' := ⟨_, ⟨rfl⟩⟩
      replace h := h H16 hb
      refine t_tomb true 1 (.agg [(.int .i64 0), (.int .i64 0)]) [(.int .i64 0), (.int .i64 0)] H16 H14 (by kernel_rfl) rfl hb ?_
      refine t_upd true 2 0 [(.int .i64 0), (.int .i64 0)] (.agg [(.int .i64 r12), (.int .i64 r13)]) [(.int .i64 r12), (.int .i64 r13)] [(.int .i64 r12), (.int .i64 r13)] H16 (by kernel_rfl) rfl (all_c rfl (all_c rfl all_n)) ⟨rfl, Nat.le_of_ble_eq_true (by kernel_rfl), rfl⟩ ?_
      refine t_done [(.int .i64 n0), culprits1, (.bool false), (.bool (!r8)), (.agg [(.int .i64 r3), (.int .i64 r4)]), (.bool (r3 != 0)), r2, .undef, .undef, .undef, .undef, .undef, (.agg [(.int .i64 r12), (.int .i64 r13)]), (.bool r11)] H16 (by kernel_rfl) ?_
      refine then_norm ?_
      refine w_seq ?_
      refine w_seq ?_
      refine w_run [0] ?_
      refine t_done [(.int .i64 n0), culprits1, (.bool false), (.bool (!r8)), (.agg [(.int .i64 r3), (.int .i64 r4)]), (.bool (r3 != 0)), r2, (.int .i64 0), .undef, .undef, .undef, .undef, (.agg [(.int .i64 r12), (.int .i64 r13)]), (.bool r11)] H16 (by kernel_rfl) ?_
      refine then_norm ?_
      refine w_block ?_
      obtain ⟨J17, k18, h0, h⟩ := h
      refine w_loop (I := fun mI EI HI => ∃ (d20 : AV) (i21 : Int) (d22 : AV) (d23 : AV) (d24 : AV) (d25 : AV), EI = [(.int .i64 n0), culprits1, d20, (.bool (!r8)), (.agg [(.int .i64 r3), (.int .i64 r4)]), (.bool (r3 != 0)), r2, (.int .i64 i21), d22, d23, d24, d25, (.agg [(.int .i64 r12), (.int .i64 r13)]), (.bool r11)] ∧ J17 mI i21 HI) ?_ k18 ⟨_, _, _, _, _, _, rfl, h0⟩
      clear h0
      rintro m19 EI H26 ⟨d20, i21, d22, d23, d24, d25, rfl, hJ⟩
      replace h := h m19 i21 H26 hJ
      clear hJ
      refine w_seq ?_
      refine w_seq ?_
      refine w_run [0, 0, 1, 0] ?_
      obtain ⟨len27, hl, h⟩ := h
      refine t_len true r2 len27 H26 (by kernel_rfl) hl ?_
      refine t_done [(.int .i64 n0), culprits1, d20, (.bool (!r8)), (.agg [(.int .i64 r3), (.int .i64 r4)]), (.bool (r3 != 0)), r2, (.int .i64 i21), (.bool (decide (i21 < (len27 : Int)))), d23, d24, d25, (.agg [(.int .i64 r12), (.int .i64 r13)]), (.bool r11)] H26 (by kernel_rfl) ?_
      refine then_norm ?_
      refine w_cond (t := (decide (i21 < (len27 : Int)))) rfl (fun hc => ?_) (fun hc => ?_)
      · replace h := h.1 (is_dec.t hc)
        refine w_skip ?_
        refine then_norm ?_
        refine w_seq ?_
        refine w_block ?_
        refine w_seq ?_
        refine w_run [0, 0, 0, 0, 0, 1, 1, 1, 1, 0, 0, 0, 1, 0, 1] ?_
        obtain ⟨e28, hg29, h⟩ := h
        refine t_idxG true 1 r2 .i64 i21 H26 (by kernel_rfl) hg29 ?_
        refine t_loadG true none 1 r2 i21 0 (.int .i64 e28) H26 (by kernel_rfl) hg29 ?_
        refine t_call true nFWithout [r2, (.int .i64 e28)] H26 (by kernel_rfl) h ?_
        clear h
        rintro r30 H31 h
        refine t_call true nbatchbisect_Fails [(.int .i64 n0), culprits1, r30] H31 (by kernel_rfl) h ?_
        clear h
        rintro _ H36 ⟨r33, r34, r35, rfl, h⟩
        obtain ⟨H38, hb⟩ : ∃ H', Dead1 H36 1 H' := ⟨_, ⟨rfl⟩⟩
        replace h := h H38 hb
        refine t_tomb true 1 (.agg [(.int .i64 0), (.int .i64 0)]) [(.int .i64 0), (.int .i64 0)] H38 H36 (by kernel_rfl) rfl hb ?_
        refine t_upd true 2 0 [(.int .i64 0), (.int .i64 0)] (.agg [(.int .i64 r34), (.int .i64 r35)]) [(.int .i64 r34), (.int .i64 r35)] [(.int .i64 r34), (.int .i64 r35)] H38 (by kernel_rfl) rfl (all_c rfl (all_c rfl all_n)) ⟨rfl, Nat.le_of_ble_eq_true (by kernel_rfl), rfl⟩ ?_
        refine t_done [(.int .i64 n0), culprits1, d20, (.bool (!r8)), (.agg [(.int .i64 r3), (.int .i64 r4)]), (.bool (r3 != 0)), r2, (.int .i64 i21), (.bool (decide (i21 < (len27 : Int)))), (.agg [(.int .i64 r34), (.int .i64 r35)]), (.bool r33), d25, (.agg [(.int .i64 r12), (.int .i64 r13)]), (.bool r11)] H38 (by kernel_rfl) ?_
        refine then_norm ?_
        refine w_seq ?_
        refine w_run [0, 0, 0, 0, 0, 0] ?_
        refine t_done [(.int .i64 n0), culprits1, d20, (.bool (!r8)), (.agg [(.int .i64 r3), (.int .i64 r4)]), (.bool (r3 != 0)), r2, (.int .i64 i21), (.bool (decide (i21 < (len27 : Int)))), (.agg [(.int .i64 r34), (.int .i64 r35)]), (.bool r33), (.bool ((r34 != 0) || r33)), (.agg [(.int .i64 r12), (.int .i64 r13)]), (.bool r11)] H38 (by kernel_rfl) ?_
        refine then_norm ?_
        refine w_cond (t := ((r34 != 0) || r33)) rfl (fun hc => ?_) (fun hc => ?_)
        · replace h := h.1 ((is_or is_ne is_raw).t hc)
          refine w_seq ?_
          refine w_run [0] ?_
          refine t_done [(.int .i64 n0), culprits1, (.bool false), (.bool (!r8)), (.agg [(.int .i64 r3), (.int .i64 r4)]), (.bool (r3 != 0)), r2, (.int .i64 i21), (.bool (decide (i21 < (len27 : Int)))), (.agg [(.int .i64 r34), (.int .i64 r35)]), (.bool r33), (.bool ((r34 != 0) || r33)), (.agg [(.int .i64 r12), (.int .i64 r13)]), (.bool r11)] H38 (by kernel_rfl) ?_
          refine then_norm ?_
          refine w_ret ?_
          refine block_ret ?_
          refine then_ret ?_
          refine loop_ret ?_
          refine block_ret ?_
          refine then_ret ?_
          exact body_ret (vs := [(.bool false)]) _ (by kernel_rfl) rfl h
        · replace h := h.2 ((is_or is_ne is_raw).f hc)
          refine w_skip ?_
          refine block_norm ?_
          refine then_norm ?_
          refine w_run [0, 0, 0] ?_
          refine t_done [(.int .i64 n0), culprits1, d20, (.bool (!r8)), (.agg [(.int .i64 r3), (.int .i64 r4)]), (.bool (r3 != 0)), r2, (.int .i64 (IntKind.wrap .i64 (i21 + 1))), (.bool (decide (i21 < (len27 : Int)))), (.agg [(.int .i64 r34), (.int .i64 r35)]), (.bool r33), (.bool ((r34 != 0) || r33)), (.agg [(.int .i64 r12), (.int .i64 r13)]), (.bool r11)] H38 (by kernel_rfl) ?_
          obtain ⟨m', hm, h⟩ := h
          refine loop_norm ⟨m', hm, _, _, _, _, _, _, rfl, h⟩
      · replace h := h.2 (is_dec.f hc)
        refine w_exit ?_
        refine then_exit ?_
        refine loop_exit ?_
        refine block_exit ?_
        refine then_norm ?_
        refine w_seq ?_
        refine w_run [0, 0, 0, 0, 0, 0, 0, 0, 1, 0, 0, 0] ?_
        obtain ⟨len40, hl, h⟩ := h
        refine t_len true r2 len40 H26 (by kernel_rfl) hl ?_
        refine t_done [(.int .i64 n0), culprits1, (.bool (((r12 == 0) && r11) && (decide ((len40 : Int) > 0)))), (.bool (!r8)), (.agg [(.int .i64 r3), (.int .i64 r4)]), (.bool (r3 != 0)), r2, (.int .i64 i21), (.bool (decide (i21 < (len27 : Int)))), d23, d24, d25, (.agg [(.int .i64 r12), (.int .i64 r13)]), (.bool r11)] H26 (by kernel_rfl) ?_
        refine then_norm ?_
        refine w_ret ?_
        exact body_ret (vs := [(.bool (((r12 == 0) && r11) && (decide ((len40 : Int) > 0))))]) _ (by kernel_rfl) rfl h

-- LBatchbisectFirstIsFast
def rf_LBatchbisectFirstIsFast (nbatchbisect_First nLbisectExample nFFirst nbatchbisect_Fails : Nat) : RFunc := ⟨2, 13, [.var 2],
 ((.seq (.ops [⟨.move (.k (.bool false)), none, (some 2), true⟩])
 ((.seq (.ops [⟨.move (.var 0), none, none, true⟩, ⟨.move (.var 1), none, none, true⟩, ⟨.callS nbatchbisect_First [(.loc 0), (.loc 1)], none, none, true⟩, ⟨.move (.loc 2), none, none, true⟩, ⟨.extract (.loc 3) 0, none, none, true⟩, ⟨.extract (.loc 3) 1, none, none, true⟩, ⟨.extract (.loc 3) 2, none, none, true⟩, ⟨.tomb 1 (.k (.agg [.int .i64 0, .int .i64 0])), none, (some 4), true⟩, ⟨.move (.loc 4), none, (some 6), true⟩, ⟨.move (.loc 5), none, (some 12), true⟩, ⟨.upd 2 0 (.loc 7) (.loc 6), none, (some 4), true⟩])
 ((.seq ((.seq (.ops [⟨.callS nLbisectExample [], none, none, true⟩, ⟨.un .not (.loc 0), none, (some 3), true⟩])
 (.cond (.var 3) ((.seq (.ops [⟨.move (.k (.bool false)), none, (some 2), true⟩])
 (.ret))) (.skip))))
 ((.seq ((.seq (.ops [⟨.field 0 none (.var 4), none, none, true⟩, ⟨.field 0 none (.var 4), none, none, true⟩, ⟨.bin .neq .no (.loc 1) (.k (.int .i64 0)), none, (some 5), true⟩])
 (.cond (.var 5) ((.seq (.ops [⟨.move (.k (.bool true)), none, (some 2), true⟩])
 (.ret))) (.skip))))
 ((.seq ((.seq (.ops [⟨.move (.var 6), none, none, true⟩, ⟨.bin .lss .no (.loc 0) (.k (.int .i64 0)), none, none, true⟩, ⟨.move (.loc 1), none, none, true⟩, ⟨.move (.var 6), none, none, true⟩, ⟨.move (.var 0), none, none, true⟩, ⟨.bin .geq .no (.loc 3) (.loc 4), none, none, true⟩, ⟨.pick (.loc 2) (.k (.bool true)) (.loc 5), none, none, true⟩, ⟨.move (.loc 6), none, none, true⟩, ⟨.move (.var 0), none, none, true⟩, ⟨.bin .gtr .no (.loc 8) (.k (.int .i64 16)), none, none, true⟩, ⟨.pick (.loc 7) (.k (.bool true)) (.loc 9), none, (some 7), true⟩])
 (.cond (.var 7) ((.seq (.ops [⟨.move (.k (.bool false)), none, (some 2), true⟩])
 (.ret))) (.skip))))
 ((.seq (.ops [⟨.move (.var 0), none, none, true⟩, ⟨.move (.var 1), none, none, true⟩, ⟨.move (.var 6), none, none, true⟩, ⟨.bin .add .no (.loc 2) (.k (.int .i64 1)), none, none, true⟩, ⟨.callS nFFirst [(.loc 3)], none, none, true⟩, ⟨.callS nbatchbisect_Fails [(.loc 0), (.loc 1), (.loc 4)], none, none, true⟩, ⟨.move (.loc 5), none, none, true⟩, ⟨.extract (.loc 6) 0, none, none, true⟩, ⟨.extract (.loc 6) 1, none, none, true⟩, ⟨.tomb 1 (.k (.agg [.int .i64 0, .int .i64 0])), none, (some 8), true⟩, ⟨.move (.loc 7), none, (some 10), true⟩, ⟨.upd 2 0 (.loc 9) (.loc 8), none, (some 8), true⟩])
 ((.seq (.ops [⟨.move (.var 0), none, none, true⟩, ⟨.move (.var 1), none, none, true⟩, ⟨.move (.var 6), none, none, true⟩, ⟨.callS nFFirst [(.loc 2)], none, none, true⟩, ⟨.callS nbatchbisect_Fails [(.loc 0), (.loc 1), (.loc 3)], none, none, true⟩, ⟨.move (.loc 4), none, none, true⟩, ⟨.extract (.loc 5) 0, none, none, true⟩, ⟨.extract (.loc 5) 1, none, none, true⟩, ⟨.tomb 1 (.k (.agg [.int .i64 0, .int .i64 0])), none, (some 9), true⟩, ⟨.move (.loc 6), none, (some 11), true⟩, ⟨.upd 2 0 (.loc 8) (.loc 7), none, (some 9), true⟩])
 ((.seq (.ops [⟨.field 0 none (.var 8), none, none, true⟩, ⟨.field 0 none (.var 8), none, none, true⟩, ⟨.bin .eql .no (.loc 1) (.k (.int .i64 0)), none, none, true⟩, ⟨.move (.loc 2), none, none, true⟩, ⟨.field 0 none (.var 9), none, none, true⟩, ⟨.field 0 none (.var 9), none, none, true⟩, ⟨.bin .eql .no (.loc 5) (.k (.int .i64 0)), none, none, true⟩, ⟨.pick (.loc 3) (.loc 6) (.k (.bool false)), none, none, true⟩, ⟨.move (.loc 7), none, none, true⟩, ⟨.move (.var 10), none, none, true⟩, ⟨.pick (.loc 8) (.loc 9) (.k (.bool false)), none, none, true⟩, ⟨.move (.loc 10), none, none, true⟩, ⟨.move (.var 11), none, none, true⟩, ⟨.un .not (.loc 12), none, none, true⟩, ⟨.pick (.loc 11) (.loc 13) (.k (.bool false)), none, none, true⟩, ⟨.move (.loc 14), none, none, true⟩, ⟨.move (.var 12), none, none, true⟩, ⟨.len (.loc 16), none, none, true⟩, ⟨.bin .geq .no (.loc 17) (.k (.int .i64 1)), none, none, true⟩, ⟨.pick (.loc 15) (.loc 18) (.k (.bool false)), none, none, true⟩, ⟨.move (.loc 19), none, none, true⟩, ⟨.move (.var 12), none, none, true⟩, ⟨.len (.loc 21), none, none, true⟩, ⟨.bin .leq .no (.loc 22) (.k (.int .i64 5)), none, none, true⟩, ⟨.pick (.loc 20) (.loc 23) (.k (.bool false)), none, none, true⟩, ⟨.move (.loc 24), none, (some 2), true⟩])
 (.ret)))))))))))))))))⟩
theorem v_LBatchbisectFirstIsFast {F : Nat → Option RFunc} {me nbatchbisect_First nLbisectExample nFFirst nbatchbisect_Fails : Nat} (hF : F me = some (rf_LBatchbisectFirstIsFast nbatchbisect_First nLbisectExample nFFirst nbatchbisect_Fails)) {fl : Nat} {H : Heap} {Q : AV → Heap → Prop} (n0 : Int) (culprits1 : AV)
  (h : Ret F fl nbatchbisect_First [(.int .i64 n0), culprits1] H (fun v7 H6 => ∃ (r2 : Int) (r3 : AV) (r4 : Int) (r5 : Int), v7 = (.tuple [(.int .i64 r2), r3, (.agg [(.int .i64 r4), (.int .i64 r5)])]) ∧ ∀ (H8 : Heap), Dead1 H6 1 H8 → Ret F fl nLbisectExample [] H8 (fun v11 H10 => ∃ (r9 : Bool), v11 = (.bool r9) ∧ ((¬(r9 = true)) → Q (.bool false) H10) ∧ (¬(¬(r9 = true)) → ((r4 ≠ 0) → Q (.bool true) H10) ∧ (¬(r4 ≠ 0) → ((((((r2 < 0) ∨ (r2 ≥ n0))) ∨ (n0 > 16))) → Q (.bool false) H10) ∧ (¬(((((r2 < 0) ∨ (r2 ≥ n0))) ∨ (n0 > 16))) → Ret F fl nFFirst [(.int .i64 (IntKind.wrap .i64 (r2 + 1)))] H10 (fun r12 H13 => Ret F fl nbatchbisect_Fails [(.int .i64 n0), culprits1, r12] H13 (fun v19 H18 => ∃ (r15 : Bool) (r16 : Int) (r17 : Int), v19 = (.tuple [(.bool r15), (.agg [(.int .i64 r16), (.int .i64 r17)])]) ∧ ∀ (H20 : Heap), Dead1 H18 1 H20 → Ret F fl nFFirst [(.int .i64 r2)] H20 (fun r21 H22 => Ret F fl nbatchbisect_Fails [(.int .i64 n0), culprits1, r21] H22 (fun v28 H27 => ∃ (r24 : Bool) (r25 : Int) (r26 : Int), v28 = (.tuple [(.bool r24), (.agg [(.int .i64 r25), (.int .i64 r26)])]) ∧ ∀ (H29 : Heap), Dead1 H27 1 H29 → ∃ len30 : Nat, lenA r3 = some len30 ∧ ∃ len31 : Nat, lenA r3 = some len31 ∧ Q (.bool ((((((r16 == 0) && (r25 == 0)) && r15) && (!r24)) && (decide ((len30 : Int) ≥ 1))) && (decide ((len31 : Int) ≤ 5)))) H29)))))))))) : Ret F fl me [(.int .i64 n0), culprits1] H Q := by
  refine ret_intro hF rfl ?_
  refine w_seq ?_
  refine w_run [0] ?_
  refine t_done [(.int .i64 n0), culprits1, (.bool false), .undef, .undef, .undef, .undef, .undef, .undef, .undef, .undef, .undef, .undef] H (by kernel_rfl) ?_
  refine then_norm ?_
  refine w_seq ?_
  refine w_run [0, 0, 1, 0, 0, 0, 0, 1, 0, 0, 1] ?_
  refine t_call true nbatchbisect_First [(.int .i64 n0), culprits1] H (by kernel_rfl) h ?_
  clear h
  rintro _ H6 ⟨r2, r3, r4, r5, rfl, h⟩
  obtain ⟨H8, hb⟩ : ∃ H', Dead1 H6 1 H' := ⟨_, ⟨rfl⟩⟩
  replace h := h H8 hb
  refine t_tomb true 1 (.agg [(.int .i64 0), (.int .i64 0)]) [(.int .i64 0), (.int .i64 0)] H8 H6 (by kernel_rfl) rfl hb ?_
  refine t_upd true 2 0 [(.int .i64 0), (.int .i64 0)] (.agg [(.int .i64 r4), (.int .i64 r5)]) [(.int .i64 r4), (.int .i64 r5)] [(.int .i64 r4), (.int .i64 r5)] H8 (by kernel_rfl) rfl (all_c rfl (all_c rfl all_n)) ⟨rfl, Nat.le_of_ble_eq_true (by kernel_rfl), rfl⟩ ?_
  refine t_done [(.int .i64 n0), culprits1, (.bool false), .undef, (.agg [(.int .i64 r4), (.int .i64 r5)]), .undef, (.int .i64 r2), .undef, .undef, .undef, .undef, .undef, r3] H8 (by kernel_rfl) ?_
  refine then_norm ?_
  refine w_seq ?_
  refine w_seq ?_
  refine w_run [1, 0] ?_
  refine t_call true nLbisectExample [] H8 (by kernel_rfl) h ?_
  clear h
  rintro _ H10 ⟨r9, rfl, h⟩
  refine t_done [(.int .i64 n0), culprits1, (.bool false), (.bool (!r9)), (.agg [(.int .i64 r4), (.int .i64 r5)]), .undef, (.int .i64 r2), .undef, .undef, .undef, .undef, .undef, r3] H10 (by kernel_rfl) ?_
  refine then_norm ?_
  refine w_cond (t := (!r9)) rfl (fun hc => ?_) (fun hc => ?_)
  · replace h := h.1 ((is_not is_raw).t hc)
    refine w_seq ?_
    refine w_run [0] ?_
    refine t_done [(.int .i64 n0), culprits1, (.bool false), (.bool (!r9)), (.agg [(.int .i64 r4), (.int .i64 r5)]), .undef, (.int .i64 r2), .undef, .undef, .undef, .undef, .undef, r3] H10 (by kernel_rfl) ?_
    refine then_norm ?_
    refine w_ret ?_
    refine then_ret ?_
    exact body_ret (vs := [(.bool false)]) _ (by kernel_rfl) rfl h
  · replace h := h.2 ((is_not is_raw).f hc)
    refine w_skip ?_
    refine then_norm ?_
    refine w_seq ?_
    refine w_seq ?_
    refine w_run [0, 0, 0] ?_
    refine t_done [(.int .i64 n0), culprits1, (.bool false), (.bool (!r9)), (.agg [(.int .i64 r4), (.int .i64 r5)]), (.bool (r4 != 0)), (.int .i64 r2), .undef, .undef, .undef, .undef, .undef, r3] H10 (by kernel_rfl) ?_
    refine then_norm ?_
    refine w_cond (t := (r4 != 0)) rfl (fun hc => ?_) (fun hc => ?_)
    · replace h := h.1 (is_ne.t hc)
      refine w_seq ?_
      refine w_run [0] ?_
      refine t_done [(.int .i64 n0), culprits1, (.bool true), (.bool (!r9)), (.agg [(.int .i64 r4), (.int .i64 r5)]), (.bool (r4 != 0)), (.int .i64 r2), .undef, .undef, .undef, .undef, .undef, r3] H10 (by kernel_rfl) ?_
      refine then_norm ?_
      refine w_ret ?_
      refine then_ret ?_
      exact body_ret (vs := [(.bool true)]) _ (by kernel_rfl) rfl h
    · replace h := h.2 (is_ne.f hc)
      refine w_skip ?_
      refine then_norm ?_
      refine w_seq ?_
      refine w_seq ?_
      refine w_run [0, 0, 0, 0, 0, 0, 0, 0, 0, 0, 0] ?_
      refine t_done [(.int .i64 n0), culprits1, (.bool false), (.bool (!r9)), (.agg [(.int .i64 r4), (.int .i64 r5)]), (.bool (r4 != 0)), (.int .i64 r2), (.bool (((decide (r2 < 0)) || (decide (r2 ≥ n0))) || (decide (n0 > 16)))), .undef, .undef, .undef, .undef, r3] H10 (by kernel_rfl) ?_
      refine then_norm ?_
      refine w_cond (t := (((decide (r2 < 0)) || (decide (r2 ≥ n0))) || (decide (n0 > 16)))) rfl (fun hc => ?_) (fun hc => ?_)
      · replace h := h.1 ((is_or (is_or is_dec is_dec) is_dec).t hc)
        refine w_seq ?_
        refine w_run [0] ?_
        refine t_done [(.int .i64 n0), culprits1, (.bool false), (.bool (!r9)), (.agg [(.int .i64 r4), (.int .i64 r5)]), (.bool (r4 != 0)), (.int .i64 r2), (.bool (((decide (r2 < 0)) || (decide (r2 ≥ n0))) || (decide (n0 > 16)))), .undef, .undef, .undef, .undef, r3] H10 (by kernel_rfl) ?_
        refine then_norm ?_
        refine w_ret ?_
        refine then_ret ?_
        exact body_ret (vs := [(.bool false)]) _ (by kernel_rfl) rfl h
      · replace h := h.2 ((is_or (is_or is_dec is_dec) is_dec).f hc)
        refine w_skip ?_
        refine then_norm ?_
        refine w_seq ?_
        refine w_run [0, 0, 0, 0, 1, 1, 0, 0, 0, 1, 0, 1] ?_
        refine t_call true nFFirst [(.int .i64 (IntKind.wrap .i64 (r2 + 1)))] H10 (by kernel_rfl) h ?_
        clear h
        rintro r12 H13 h
        refine t_call true nbatchbisect_Fails [(.int .i64 n0), culprits1, r12] H13 (by kernel_rfl) h ?_
        clear h
        rintro _ H18 ⟨r15, r16, r17, rfl, h⟩
        obtain ⟨H20, hb⟩ : ∃ H', Dead1 H18 1 H' := ⟨_, ⟨rfl⟩⟩
        replace h := h H20 hb
        refine t_tomb true 1 (.agg [(.int .i64 0), (.int .i64 0)]) [(.int .i64 0), (.int .i64 0)] H20 H18 (by kernel_rfl) rfl hb ?_
        refine t_upd true 2 0 [(.int .i64 0), (.int .i64 0)] (.agg [(.int .i64 r16), (.int .i64 r17)]) [(.int .i64 r16), (.int .i64 r17)] [(.int .i64 r16), (.int .i64 r17)] H20 (by kernel_rfl) rfl (all_c rfl (all_c rfl all_n)) ⟨rfl, Nat.le_of_ble_eq_true (by kernel_rfl), rfl⟩ ?_
        refine t_done [(.int .i64 n0), culprits1, (.bool false), (.bool (!r9)), (.agg [(.int .i64 r4), (.int .i64 r5)]), (.bool (r4 != 0)), (.int .i64 r2), (.bool (((decide (r2 < 0)) || (decide (r2 ≥ n0))) || (decide (n0 > 16)))), (.agg [(.int .i64 r16), (.int .i64 r17)]), .undef, (.bool r15), .undef, r3] H20 (by kernel_rfl) ?_
        refine then_norm ?_
        refine w_seq ?_
        refine w_run [0, 0, 0, 1, 1, 0, 0, 0, 1, 0, 1] ?_
        refine t_call true nFFirst [(.int .i64 r2)] H20 (by kernel_rfl) h ?_
        clear h
        rintro r21 H22 h
        refine t_call true nbatchbisect_Fails [(.int .i64 n0), culprits1, r21] H22 (by kernel_rfl) h ?_
        clear h
        rintro _ H27 ⟨r24, r25, r26, rfl, h⟩
        obtain ⟨H29, hb⟩ : ∃ H', Dead1 H27 1 H' := ⟨_, ⟨rfl⟩⟩
        replace h := h H29 hb
        refine t_tomb true 1 (.agg [(.int .i64 0), (.int .i64 0)]) [(.int .i64 0), (.int .i64 0)] H29 H27 (by kernel_rfl) rfl hb ?_
        refine t_upd true 2 0 [(.int .i64 0), (.int .i64 0)] (.agg [(.int .i64 r25), (.int .i64 r26)]) [(.int .i64 r25), (.int .i64 r26)] [(.int .i64 r25), (.int .i64 r26)] H29 (by kernel_rfl) rfl (all_c rfl (all_c rfl all_n)) ⟨rfl, Nat.le_of_ble_eq_true (by kernel_rfl), rfl⟩ ?_
        refine t_done [(.int .i64 n0), culprits1, (.bool false), (.bool (!r9)), (.agg [(.int .i64 r4), (.int .i64 r5)]), (.bool (r4 != 0)), (.int .i64 r2), (.bool (((decide (r2 < 0)) || (decide (r2 ≥ n0))) || (decide (n0 > 16)))), (.agg [(.int .i64 r16), (.int .i64 r17)]), (.agg [(.int .i64 r25), (.int .i64 r26)]), (.bool r15), (.bool r24), r3] H29 (by kernel_rfl) ?_
        refine then_norm ?_
        refine w_seq ?_
        refine w_run [0, 0, 0, 0, 0, 0, 0, 0, 0, 0, 0, 0, 0, 0, 0, 0, 0, 1, 0, 0, 0, 0, 1, 0, 0, 0] ?_
        obtain ⟨len30, hl, h⟩ := h
        refine t_len true r3 len30 H29 (by kernel_rfl) hl ?_
        obtain ⟨len31, hl, h⟩ := h
        refine t_len true r3 len31 H29 (by kernel_rfl) hl ?_
        refine t_done [(.int .i64 n0), culprits1, (.bool ((((((r16 == 0) && (r25 == 0)) && r15) && (!r24)) && (decide ((len30 : Int) ≥ 1))) && (decide ((len31 : Int) ≤ 5)))), (.bool (!r9)), (.agg [(.int .i64 r4), (.int .i64 r5)]), (.bool (r4 != 0)), (.int .i64 r2), (.bool (((decide (r2 < 0)) || (decide (r2 ≥ n0))) || (decide (n0 > 16)))), (.agg [(.int .i64 r16), (.int .i64 r17)]), (.agg [(.int .i64 r25), (.int .i64 r26)]), (.bool r15), (.bool r24), r3] H29 (by kernel_rfl) ?_
        refine then_norm ?_
        refine w_ret ?_
        exact body_ret (vs := [(.bool ((((((r16 == 0) && (r25 == 0)) && r15) && (!r24)) && (decide ((len30 : Int) ≥ 1))) && (decide ((len31 : Int) ≤ 5))))]) _ (by kernel_rfl) rfl h

-- LBatchbisectGreedyIsMaximal
def rf_LBatchbisectGreedyIsMaximal (nbatchbisect_Greedy nLbisectExample nbatchbisect_Fails nFHas : Nat) : RFunc := ⟨2, 20, [.var 2],
 ((.seq (.ops [⟨.move (.k (.bool false)), none, (some 2), true⟩])
 ((.seq (.ops [⟨.move (.var 0), none, none, true⟩, ⟨.move (.var 1), none, none, true⟩, ⟨.callS nbatchbisect_Greedy [(.loc 0), (.loc 1)], none, none, true⟩, ⟨.move (.loc 2), none, none, true⟩, ⟨.extract (.loc 3) 0, none, none, true⟩, ⟨.extract (.loc 3) 1, none, none, true⟩, ⟨.tomb 1 (.k (.agg [.int .i64 0, .int .i64 0])), none, (some 4), true⟩, ⟨.move (.loc 4), none, (some 6), true⟩, ⟨.upd 2 0 (.loc 6) (.loc 5), none, (some 4), true⟩])
 ((.seq ((.seq (.ops [⟨.callS nLbisectExample [], none, none, true⟩, ⟨.un .not (.loc 0), none, (some 3), true⟩])
 (.cond (.var 3) ((.seq (.ops [⟨.move (.k (.bool false)), none, (some 2), true⟩])
 (.ret))) (.skip))))
 ((.seq ((.seq (.ops [⟨.field 0 none (.var 4), none, none, true⟩, ⟨.field 0 none (.var 4), none, none, true⟩, ⟨.bin .neq .no (.loc 1) (.k (.int .i64 0)), none, (some 5), true⟩])
 (.cond (.var 5) ((.seq (.ops [⟨.move (.k (.bool true)), none, (some 2), true⟩])
 (.ret))) (.skip))))
 ((.seq (.ops [⟨.move (.var 0), none, none, true⟩, ⟨.move (.var 1), none, none, true⟩, ⟨.move (.var 6), none, none, true⟩, ⟨.callS nbatchbisect_Fails [(.loc 0), (.loc 1), (.loc 2)], none, none, true⟩, ⟨.move (.loc 3), none, none, true⟩, ⟨.extract (.loc 4) 0, none, none, true⟩, ⟨.extract (.loc 4) 1, none, none, true⟩, ⟨.tomb 1 (.k (.agg [.int .i64 0, .int .i64 0])), none, (some 7), true⟩, ⟨.move (.loc 5), none, (some 8), true⟩, ⟨.upd 2 0 (.loc 7) (.loc 6), none, (some 7), true⟩])
 ((.seq ((.seq (.ops [⟨.field 0 none (.var 7), none, none, true⟩, ⟨.field 0 none (.var 7), none, none, true⟩, ⟨.bin .neq .no (.loc 1) (.k (.int .i64 0)), none, none, true⟩, ⟨.move (.loc 2), none, none, true⟩, ⟨.move (.var 8), none, none, true⟩, ⟨.pick (.loc 3) (.k (.bool true)) (.loc 4), none, (some 9), true⟩])
 (.cond (.var 9) ((.seq (.ops [⟨.move (.k (.bool false)), none, (some 2), true⟩])
 (.ret))) (.skip))))
 ((.seq ((.seq (.ops [⟨.move (.k (.int .i64 0)), none, (some 10), true⟩])
 (.block 0 (.loop ((.seq ((.seq (.ops [⟨.move (.var 10), none, none, true⟩, ⟨.move (.var 0), none, none, true⟩, ⟨.bin .lss .no (.loc 0) (.loc 1), none, (some 11), true⟩])
 (.cond (.var 11) (.skip) (.exit 0))))
 ((.seq (.block 1 ((.seq ((.seq (.ops [⟨.move (.var 6), none, none, true⟩, ⟨.move (.var 10), none, none, true⟩, ⟨.callS nFHas [(.loc 0), (.loc 1)], none, (some 12), true⟩])
 (.cond (.var 12) (.exit 1) (.skip))))
 ((.seq (.ops [⟨.move (.k (.empty)), none, (some 16), true⟩])
 ((.seq ((.seq (.ops [⟨.move (.k (.int .i64 0)), none, (some 13), true⟩])
 (.block 2 (.loop ((.seq ((.seq (.ops [⟨.move (.var 13), none, none, true⟩, ⟨.move (.var 0), none, none, true⟩, ⟨.bin .lss .no (.loc 0) (.loc 1), none, (some 14), true⟩])
 (.cond (.var 14) (.skip) (.exit 2))))
 ((.seq (.block 3 ((.seq (.ops [⟨.move (.var 13), none, none, true⟩, ⟨.move (.var 10), none, none, true⟩, ⟨.bin .eql .no (.loc 0) (.loc 1), none, none, true⟩, ⟨.move (.loc 2), none, none, true⟩, ⟨.move (.var 6), none, none, true⟩, ⟨.move (.var 13), none, none, true⟩, ⟨.callS nFHas [(.loc 4), (.loc 5)], (some (3, false)), none, true⟩, ⟨.pick (.loc 3) (.k (.bool true)) (.loc 6), none, (some 15), true⟩])
 (.cond (.var 15) (.ops [⟨.move (.var 16), none, none, true⟩, ⟨.move (.var 13), none, none, true⟩, ⟨.buildSlice 1 [.int .i64 0] [(0, 1, (.loc 1))] 1, none, none, true⟩, ⟨.append 1 8 (.loc 0) (.loc 2), none, none, true⟩, ⟨.move (.loc 3), none, (some 16), true⟩]) (.skip)))))
 (.ops [⟨.move (.var 13), none, none, true⟩, ⟨.bin .add .no (.loc 0) (.k (.int .i64 1)), none, none, true⟩, ⟨.move (.loc 1), none, (some 13), true⟩])))))))))
 ((.seq (.ops [⟨.move (.var 0), none, none, true⟩, ⟨.move (.var 1), none, none, true⟩, ⟨.move (.var 16), none, none, true⟩, ⟨.callS nbatchbisect_Fails [(.loc 0), (.loc 1), (.loc 2)], none, none, true⟩, ⟨.move (.loc 3), none, none, true⟩, ⟨.extract (.loc 4) 0, none, none, true⟩, ⟨.extract (.loc 4) 1, none, none, true⟩, ⟨.tomb 1 (.k (.agg [.int .i64 0, .int .i64 0])), none, (some 17), true⟩, ⟨.move (.loc 5), none, (some 18), true⟩, ⟨.upd 2 0 (.loc 7) (.loc 6), none, (some 17), true⟩])
 ((.seq (.ops [⟨.field 0 none (.var 17), none, none, true⟩, ⟨.field 0 none (.var 17), none, none, true⟩, ⟨.bin .neq .no (.loc 1) (.k (.int .i64 0)), none, none, true⟩, ⟨.move (.loc 2), none, none, true⟩, ⟨.move (.var 18), none, none, true⟩, ⟨.un .not (.loc 4), none, none, true⟩, ⟨.pick (.loc 3) (.k (.bool true)) (.loc 5), none, (some 19), true⟩])
 (.cond (.var 19) ((.seq (.ops [⟨.move (.k (.bool false)), none, (some 2), true⟩])
 (.ret))) (.skip)))))))))))))
 (.ops [⟨.move (.var 10), none, none, true⟩, ⟨.bin .add .no (.loc 0) (.k (.int .i64 1)), none, none, true⟩, ⟨.move (.loc 1), none, (some 10), true⟩])))))))))
 ((.seq (.ops [⟨.move (.k (.bool true)), none, (some 2), true⟩])
 (.ret)))))))))))))))))⟩
theorem v_LBatchbisectGreedyIsMaximal {F : Nat → Option RFunc} {me nbatchbisect_Greedy nLbisectExample nbatchbisect_Fails nFHas : Nat} (hF : F me = some (rf_LBatchbisectGreedyIsMaximal nbatchbisect_Greedy nLbisectExample nbatchbisect_Fails nFHas)) {fl : Nat} {H : Heap} {Q : AV → Heap → Prop} (n0 : Int) (culprits1 : AV)
  (h : Ret F fl nbatchbisect_Greedy [(.int .i64 n0), culprits1] H (fun v6 H5 => ∃ (r2 : AV) (r3 : Int) (r4 : Int), v6 = (.tuple [r2, (.agg [(.int .i64 r3), (.int .i64 r4)])]) ∧ ∀ (H7 : Heap), Dead1 H5 1 H7 → Ret F fl nLbisectExample [] H7 (fun v10 H9 => ∃ (r8 : Bool), v10 = (.bool r8) ∧ ((¬(r8 = true)) → Q (.bool false) H9) ∧ (¬(¬(r8 = true)) → ((r3 ≠ 0) → Q (.bool true) H9) ∧ (¬(r3 ≠ 0) → Ret F fl nbatchbisect_Fails [(.int .i64 n0), culprits1, r2] H9 (fun v15 H14 => ∃ (r11 : Bool) (r12 : Int) (r13 : Int), v15 = (.tuple [(.bool r11), (.agg [(.int .i64 r12), (.int .i64 r13)])]) ∧ ∀ (H16 : Heap), Dead1 H14 1 H16 → ((((r12 ≠ 0) ∨ (r11 = true))) → Q (.bool false) H16) ∧ (¬(((r12 ≠ 0) ∨ (r11 = true))) → ∃ (J17 : Nat → Int → Heap → Prop) (k18 : Nat), J17 k18 0 H16 ∧ (∀ (m19 : Nat) (c21 : Int) (H31 : Heap), J17 m19 c21 H31 → ((c21 < n0) → Ret F fl nFHas [r2, (.int .i64 c21)] H31 (fun v34 H33 => ∃ (r32 : Bool), v34 = (.bool r32) ∧ ((r32 = true) → ∃ m35 : Nat, m35 < m19 ∧ J17 m35 (IntKind.wrap .i64 (c21 + 1)) H33) ∧ (¬(r32 = true) → ∃ (J36 : Nat → Int → AV → Heap → Prop) (k37 : Nat), J36 k37 0 .empty H33 ∧ (∀ (m38 : Nat) (i39 : Int) (more42 : AV) (H43 : Heap), J36 m38 i39 more42 H43 → ((i39 < n0) → ((i39 = c21) → ∀ (b53 : Nat) (H54 : Heap), NewB H43 1 [(.int .i64 i39)] b53 H54 → ∃ (a55 : AV) (H56 : Heap), appA fl true 1 8 H54 more42 (.slice b53 0 1 (some 1)) = some (a55, H56) ∧ ∃ m57 : Nat, m57 < m38 ∧ J36 m57 (IntKind.wrap .i64 (i39 + 1)) a55 H56) ∧ (¬(i39 = c21) → Ret F fl nFHas [r2, (.int .i64 i39)] H43 (fun v46 H45 => ∃ (r44 : Bool), v46 = (.bool r44) ∧ ((r44 = true) → ∀ (b47 : Nat) (H48 : Heap), NewB H45 1 [(.int .i64 i39)] b47 H48 → ∃ (a49 : AV) (H50 : Heap), appA fl true 1 8 H48 more42 (.slice b47 0 1 (some 1)) = some (a49, H50) ∧ ∃ m51 : Nat, m51 < m38 ∧ J36 m51 (IntKind.wrap .i64 (i39 + 1)) a49 H50) ∧ (¬(r44 = true) → ∃ m52 : Nat, m52 < m38 ∧ J36 m52 (IntKind.wrap .i64 (i39 + 1)) more42 H45)))) ∧ (¬(i39 < n0) → Ret F fl nbatchbisect_Fails [(.int .i64 n0), culprits1, more42] H43 (fun v62 H61 => ∃ (r58 : Bool) (r59 : Int) (r60 : Int), v62 = (.tuple [(.bool r58), (.agg [(.int .i64 r59), (.int .i64 r60)])]) ∧ ∀ (H63 : Heap), Dead1 H61 1 H63 → ((((r59 ≠ 0) ∨ (¬(r58 = true)))) → Q (.bool false) H63) ∧ (¬(((r59 ≠ 0) ∨ (¬(r58 = true)))) → ∃ m64 : Nat, m64 < m19 ∧ J17 m64 (IntKind.wrap .i64 (c21 + 1)) H63))))))) ∧ (¬(c21 < n0) → Q (.bool true) H31))))))))) : Ret F fl me [(.int .i64 n0), culprits1] H Q := by
  refine ret_intro hF rfl ?_
  refine w_seq ?_
  refine w_run [0] ?_
  refine t_done [(.int .i64 n0), culprits1, (.bool false), .undef, .undef, .undef, .undef, .undef, .undef, .undef, .undef, .undef, .undef, .undef, .undef, .undef, .undef, .undef, .undef, .undef] H (by kernel_rfl) ?_
  refine then_norm ?_
  refine w_seq ?_
  refine w_run [0, 0, 1, 0, 0, 0, 1, 0, 1] ?_
  refine t_call true nbatchbisect_Greedy [(.int .i64 n0), culprits1] H (by kernel_rfl) h ?_
  clear h
  rintro _ H5 ⟨r2, r3, r4, rfl, h⟩
  obtain ⟨H7, hb⟩ : ∃ H', Dead1 H5 1 H' := ⟨_, ⟨rfl⟩⟩
  replace h := h H7 hb
  refine t_tomb true 1 (.agg [(.int .i64 0), (.int .i64 0)]) [(.int .i64 0), (.int .i64 0)] H7 H5 (by kernel_rfl) rfl hb ?_
  refine t_upd true 2 0 [(.int .i64 0), (.int .i64 0)] (.agg [(.int .i64 r3), (.int .i64 r4)]) [(.int .i64 r3), (.int .i64 r4)] [(.int .i64 r3), (.int .i64 r4)] H7 (by kernel_rfl) rfl (all_c rfl (all_c rfl all_n)) ⟨rfl, Nat.le_of_ble_eq_true (by kernel_rfl), rfl⟩ ?_
  refine t_done [(.int .i64 n0), culprits1, (.bool false), .undef, (.agg [(.int .i64 r3), (.int .i64 r4)]), .undef, r2, .undef, .undef, .undef, .undef, .undef, .undef, .undef, .undef, .undef, .undef, .undef, .undef, .undef] H7 (by kernel_rfl) ?_
  refine then_norm ?_
  refine w_seq ?_
  refine w_seq ?_
  refine w_run [1, 0] ?_
  refine t_call true nLbisectExample [] H7 (by kernel_rfl) h ?_
  clear h
  rintro _ H9 ⟨r8, rfl, h⟩
  refine t_done [(.int .i64 n0), culprits1, (.bool false), (.bool (!r8)), (.agg [(.int .i64 r3), (.int .i64 r4)]), .undef, r2, .undef, .undef, .undef, .undef, .undef, .undef, .undef, .undef, .undef, .undef, .undef, .undef, .undef] H9 (by kernel_rfl) ?_
  refine then_norm ?_
  refine w_cond (t := (!r8)) rfl (fun hc => ?_) (fun hc => ?_)
  · replace h := h.1 ((is_not is_raw).t hc)
    refine w_seq ?_
    refine w_run [0] ?_
    refine t_done [(.int .i64 n0), culprits1, (.bool false), (.bool (!r8)), (.agg [(.int .i64 r3), (.int .i64 r4)]), .undef, r2, .undef, .undef, .undef, .undef, .undef, .undef, .undef, .undef, .undef, .undef, .undef, .undef, .undef] H9 (by kernel_rfl) ?_
    refine then_norm ?_
    refine w_ret ?_
    refine then_ret ?_
    exact body_ret (vs := [(.bool false)]) _ (by kernel_rfl) rfl h
  · replace h := h.2 ((is_not is_raw).f hc)
    refine w_skip ?_
    refine then_norm ?_
    refine w_seq ?_
    refine w_seq ?_
    refine w_run [0, 0, 0] ?_
    refine t_done [(.int .i64 n0), culprits1, (.bool false), (.bool (!r8)), (.agg [(.int .i64 r3), (.int .i64 r4)]), (.bool (r3 != 0)), r2, .undef, .undef, .undef, .undef, .undef, .undef, .undef, .undef, .undef, .undef, .undef, .undef, .undef] H9 (by kernel_rfl) ?_
    refine then_norm ?_
    refine w_cond (t := (r3 != 0)) rfl (fun hc => ?_) (fun hc => ?_)
    · replace h := h.1 (is_ne.t hc)
      refine w_seq ?_
      refine w_run [0] ?_
      refine t_done [(.int .i64 n0), culprits1, (.bool true), (.bool (!r8)), (.agg [(.int .i64 r3), (.int .i64 r4)]), (.bool (r3 != 0)), r2, .undef, .undef, .undef, .undef, .undef, .undef, .undef, .undef, .undef, .undef, .undef, .undef, .undef] H9 (by kernel_rfl) ?_
      refine then_norm ?_
      refine w_ret ?_
      refine then_ret ?_
      exact body_ret (vs := [(.bool true)]) _ (by kernel_rfl) rfl h
    · replace h := h.2 (is_ne.f hc)
      refine w_skip ?_
      refine then_norm ?_
      refine w_seq ?_
      refine w_run [0, 0, 0, 1, 0, 0, 0, 1, 0, 1] ?_
      refine t_call true nbatchbisect_Fails [(.int .i64 n0), culprits1, r2] H9 (by kernel_rfl) h ?_
      clear h
      rintro _ H14 ⟨r11, r12, r13, rfl, h⟩
      obtain ⟨H16, hb⟩ : ∃ H', Dead1 H14 1 H' := ⟨_, ⟨rfl⟩⟩
      replace h := h H16 hb
      refine t_tomb true 1 (.agg [(.int .i64 0), (.int .i64 0)]) [(.int .i64 0), (.int .i64 0)] H16 H14 (by kernel_rfl) rfl hb ?_
      refine t_upd true 2 0 [(.int .i64 0), (.int .i64 0)] (.agg [(.int .i64 r12), (.int .i64 r13)]) [(.int .i64 r12), (.int .i64 r13)] [(.int .i64 r12), (.int .i64 r13)] H16 (by kernel_rfl) rfl (all_c rfl (all_c rfl all_n)) ⟨rfl, Nat.le_of_ble_eq_true (by kernel_rfl), rfl⟩ ?_
      refine t_done [(.int .i64 n0), culprits1, (.bool false), (.bool (!r8)), (.agg [(.int .i64 r3), (.int .i64 r4)]), (.bool (r3 != 0)), r2, (.agg [(.int .i64 r12), (.int .i64 r13)]), (.bool r11), .undef, .undef, .undef, .undef, .undef, .undef, .undef, .undef, .undef, .undef, .undef] H16 (by kernel_rfl) ?_
      refine then_norm ?_
      refine w_seq ?_
      refine w_seq ?_
      refine w_run [0, 0, 0, 0, 0, 0] ?_
      refine t_done [(.int .i64 n0), culprits1, (.bool false), (.bool (!r8)), (.agg [(.int .i64 r3), (.int .i64 r4)]), (.bool (r3 != 0)), r2, (.agg [(.int .i64 r12), (.int .i64 r13)]), (.bool r11), (.bool ((r12 != 0) || r11)), .undef, .undef, .undef, .undef, .undef, .undef, .undef, .undef, .undef, .undef] H16 (by kernel_rfl) ?_
      refine then_norm ?_
      refine w_cond (t := ((r12 != 0) || r11)) rfl (fun hc => ?_) (fun hc => ?_)
      · replace h := h.1 ((is_or is_ne is_raw).t hc)
        refine w_seq ?_
        refine w_run [0] ?_
        refine t_done [(.int .i64 n0), culprits1, (.bool false), (.bool (!r8)), (.agg [(.int .i64 r3), (.int .i64 r4)]), (.bool (r3 != 0)), r2, (.agg [(.int .i64 r12), (.int .i64 r13)]), (.bool r11), (.bool ((r12 != 0) || r11)), .undef, .undef, .undef, .undef, .undef, .undef, .undef, .undef, .undef, .undef] H16 (by kernel_rfl) ?_
        refine then_norm ?_
        refine w_ret ?_
        refine then_ret ?_
        exact body_ret (vs := [(.bool false)]) _ (by kernel_rfl) rfl h
      · replace h := h.2 ((is_or is_ne is_raw).f hc)
        refine w_skip ?_
        refine then_norm ?_
        refine w_seq ?_
        refine w_seq ?_
        refine w_run [0] ?_
        refine t_done [(.int .i64 n0), culprits1, (.bool false), (.bool (!r8)), (.agg [(.int .i64 r3), (.int .i64 r4)]), (.bool (r3 != 0)), r2, (.agg [(.int .i64 r12), (.int .i64 r13)]), (.bool r11), (.bool ((r12 != 0) || r11)), (.int .i64 0), .undef, .undef, .undef, .undef, .undef, .undef, .undef, .undef, .undef] H16 (by kernel_rfl) ?_
        refine then_norm ?_
        refine w_block ?_
        obtain ⟨J17, k18, h0, h⟩ := h
        refine w_loop (I := fun mI EI HI => ∃ (d20 : AV) (c21 : Int) (d22 : AV) (d23 : AV) (d24 : AV) (d25 : AV) (d26 : AV) (d27 : AV) (d28 : AV) (d29 : AV) (d30 : AV), EI = [(.int .i64 n0), culprits1, d20, (.bool (!r8)), (.agg [(.int .i64 r3), (.int .i64 r4)]), (.bool (r3 != 0)), r2, (.agg [(.int .i64 r12), (.int .i64 r13)]), (.bool r11), (.bool ((r12 != 0) || r11)), (.int .i64 c21), d22, d23, d24, d25, d26, d27, d28, d29, d30] ∧ J17 mI c21 HI) ?_ k18 ⟨_, _, _, _, _, _, _, _, _, _, _, rfl, h0⟩
        clear h0
        rintro m19 EI H31 ⟨d20, c21, d22, d23, d24, d25, d26, d27, d28, d29, d30, rfl, hJ⟩
        replace h := h m19 c21 H31 hJ
        clear hJ
        refine w_seq ?_
        refine w_seq ?_
        refine w_run [0, 0, 0] ?_
        refine t_done [(.int .i64 n0), culprits1, d20, (.bool (!r8)), (.agg [(.int .i64 r3), (.int .i64 r4)]), (.bool (r3 != 0)), r2, (.agg [(.int .i64 r12), (.int .i64 r13)]), (.bool r11), (.bool ((r12 != 0) || r11)), (.int .i64 c21), (.bool (decide (c21 < n0))), d23, d24, d25, d26, d27, d28, d29, d30] H31 (by kernel_rfl) ?_
        refine then_norm ?_
        refine w_cond (t := (decide (c21 < n0))) rfl (fun hc => ?_) (fun hc => ?_)
        · replace h := h.1 (is_dec.t hc)
          refine w_skip ?_
          refine then_norm ?_
          refine w_seq ?_
          refine w_block ?_
          refine w_seq ?_
          refine w_seq ?_
          refine w_run [0, 0, 1] ?_
          refine t_call true nFHas [r2, (.int .i64 c21)] H31 (by kernel_rfl) h ?_
          clear h
          rintro _ H33 ⟨r32, rfl, h⟩
          refine t_done [(.int .i64 n0), culprits1, d20, (.bool (!r8)), (.agg [(.int .i64 r3), (.int .i64 r4)]), (.bool (r3 != 0)), r2, (.agg [(.int .i64 r12), (.int .i64 r13)]), (.bool r11), (.bool ((r12 != 0) || r11)), (.int .i64 c21), (.bool (decide (c21 < n0))), (.bool r32), d24, d25, d26, d27, d28, d29, d30] H33 (by kernel_rfl) ?_
          refine then_norm ?_
          refine w_cond (t := r32) rfl (fun hc => ?_) (fun hc => ?_)
          · replace h := h.1 (is_raw.t hc)
            refine w_exit ?_
            refine then_exit ?_
            refine block_exit ?_
            refine then_norm ?_
            refine w_run [0, 0, 0] ?_
            refine t_done [(.int .i64 n0), culprits1, d20, (.bool (!r8)), (.agg [(.int .i64 r3), (.int .i64 r4)]), (.bool (r3 != 0)), r2, (.agg [(.int .i64 r12), (.int .i64 r13)]), (.bool r11), (.bool ((r12 != 0) || r11)), (.int .i64 (IntKind.wrap .i64 (c21 + 1))), (.bool (decide (c21 < n0))), (.bool r32), d24, d25, d26, d27, d28, d29, d30] H33 (by kernel_rfl) ?_
            obtain ⟨m', hm, h⟩ := h
            refine loop_norm ⟨m', hm, _, _, _, _, _, _, _, _, _, _, _, rfl, h⟩
          · replace h := h.2 (is_raw.f hc)
            refine w_skip ?_
            refine then_norm ?_
            refine w_seq ?_
            refine w_run [0] ?_
            refine t_done [(.int .i64 n0), culprits1, d20, (.bool (!r8)), (.agg [(.int .i64 r3), (.int .i64 r4)]), (.bool (r3 != 0)), r2, (.agg [(.int .i64 r12), (.int .i64 r13)]), (.bool r11), (.bool ((r12 != 0) || r11)), (.int .i64 c21), (.bool (decide (c21 < n0))), (.bool r32), d24, d25, d26, .empty, d28, d29, d30] H33 (by kernel_rfl) ?_
            refine then_norm ?_
            refine w_seq ?_
            refine w_seq ?_
            refine w_run [0] ?_
            refine t_done [(.int .i64 n0), culprits1, d20, (.bool (!r8)), (.agg [(.int .i64 r3), (.int .i64 r4)]), (.bool (r3 != 0)), r2, (.agg [(.int .i64 r12), (.int .i64 r13)]), (.bool r11), (.bool ((r12 != 0) || r11)), (.int .i64 c21), (.bool (decide (c21 < n0))), (.bool r32), (.int .i64 0), d25, d26, .empty, d28, d29, d30] H33 (by kernel_rfl) ?_
            refine then_norm ?_
            refine w_block ?_
            obtain ⟨J36, k37, h0, h⟩ := h
            refine w_loop (I := fun mI EI HI => ∃ (i39 : Int) (d40 : AV) (d41 : AV) (more42 : AV), EI = [(.int .i64 n0), culprits1, d20, (.bool (!r8)), (.agg [(.int .i64 r3), (.int .i64 r4)]), (.bool (r3 != 0)), r2, (.agg [(.int .i64 r12), (.int .i64 r13)]), (.bool r11), (.bool ((r12 != 0) || r11)), (.int .i64 c21), (.bool (decide (c21 < n0))), (.bool r32), (.int .i64 i39), d40, d41, more42, d28, d29, d30] ∧ J36 mI i39 more42 HI) ?_ k37 ⟨_, _, _, _, rfl, h0⟩
            clear h0
            rintro m38 EI H43 ⟨i39, d40, d41, more42, rfl, hJ⟩
            replace h := h m38 i39 more42 H43 hJ
            clear hJ
            refine w_seq ?_
            refine w_seq ?_
            refine w_run [0, 0, 0] ?_
            refine t_done [(.int .i64 n0), culprits1, d20, (.bool (!r8)), (.agg [(.int .i64 r3), (.int .i64 r4)]), (.bool (r3 != 0)), r2, (.agg [(.int .i64 r12), (.int .i64 r13)]), (.bool r11), (.bool ((r12 != 0) || r11)), (.int .i64 c21), (.bool (decide (c21 < n0))), (.bool r32), (.int .i64 i39), (.bool (decide (i39 < n0))), d41, more42, d28, d29, d30] H43 (by kernel_rfl) ?_
            refine then_norm ?_
            refine w_cond (t := (decide (i39 < n0))) rfl (fun hc => ?_) (fun hc => ?_)
            · replace h := h.1 (is_dec.t hc)
              refine w_skip ?_
              refine then_norm ?_
              refine w_seq ?_
              refine w_block ?_
              refine w_seq ?_
              refine w_run [0, 0, 0, 0, 0, 0, 3, 0] ?_
              refine t_gd (i39 == c21) false (by kernel_rfl) (fun hc => ?_) (fun hc => ?_)
              · replace h := h.2 (is_eq.f hc)
                refine t_call true nFHas [r2, (.int .i64 i39)] H43 (by kernel_rfl) h ?_
                clear h
                rintro _ H45 ⟨r44, rfl, h⟩
                refine t_done [(.int .i64 n0), culprits1, d20, (.bool (!r8)), (.agg [(.int .i64 r3), (.int .i64 r4)]), (.bool (r3 != 0)), r2, (.agg [(.int .i64 r12), (.int .i64 r13)]), (.bool r11), (.bool ((r12 != 0) || r11)), (.int .i64 c21), (.bool (decide (c21 < n0))), (.bool r32), (.int .i64 i39), (.bool (decide (i39 < n0))), (.bool r44), more42, d28, d29, d30] H45 (by kernel_rfl) ?_
                refine then_norm ?_
                refine w_cond (t := r44) rfl (fun hc => ?_) (fun hc => ?_)
                · replace h := h.1 (is_raw.t hc)
                  refine w_run [0, 0, 1, 1, 0] ?_
                  obtain ⟨b47, H48, hb⟩ : ∃ b H', NewB H45 1 [(.int .i64 i39)] b H' := ⟨_, _, rfl, rfl⟩
                  replace h := h b47 H48 hb
                  refine t_bs true 1 [(.int .i64 0)] [(0, 1, .loc 0)] 1 [(.int .i64 i39)] [(.int .i64 i39)] b47 H48 H45 (by kernel_rfl) (fill_c (vs := [(.int .i64 i39)]) (size := 1) rfl (by kernel_rfl) (by kernel_rfl) (by kernel_rfl)) hb ?_
                  obtain ⟨a49, H50, ha, h⟩ := h
                  refine t_app true 1 8 more42 (.slice b47 0 1 (some 1)) a49 H50 H48 (by kernel_rfl) ha ?_
                  refine t_done [(.int .i64 n0), culprits1, d20, (.bool (!r8)), (.agg [(.int .i64 r3), (.int .i64 r4)]), (.bool (r3 != 0)), r2, (.agg [(.int .i64 r12), (.int .i64 r13)]), (.bool r11), (.bool ((r12 != 0) || r11)), (.int .i64 c21), (.bool (decide (c21 < n0))), (.bool r32), (.int .i64 i39), (.bool (decide (i39 < n0))), (.bool r44), a49, d28, d29, d30] H50 (by kernel_rfl) ?_
                  refine block_norm ?_
                  refine then_norm ?_
                  refine w_run [0, 0, 0] ?_
                  refine t_done [(.int .i64 n0), culprits1, d20, (.bool (!r8)), (.agg [(.int .i64 r3), (.int .i64 r4)]), (.bool (r3 != 0)), r2, (.agg [(.int .i64 r12), (.int .i64 r13)]), (.bool r11), (.bool ((r12 != 0) || r11)), (.int .i64 c21), (.bool (decide (c21 < n0))), (.bool r32), (.int .i64 (IntKind.wrap .i64 (i39 + 1))), (.bool (decide (i39 < n0))), (.bool r44), a49, d28, d29, d30] H50 (by kernel_rfl) ?_
                  obtain ⟨m', hm, h⟩ := h
                  refine loop_norm ⟨m', hm, _, _, _, _, rfl, h⟩
                · replace h := h.2 (is_raw.f hc)
                  refine w_skip ?_
                  refine block_norm ?_
                  refine then_norm ?_
                  refine w_run [0, 0, 0] ?_
                  refine t_done [(.int .i64 n0), culprits1, d20, (.bool (!r8)), (.agg [(.int .i64 r3), (.int .i64 r4)]), (.bool (r3 != 0)), r2, (.agg [(.int .i64 r12), (.int .i64 r13)]), (.bool r11), (.bool ((r12 != 0) || r11)), (.int .i64 c21), (.bool (decide (c21 < n0))), (.bool r32), (.int .i64 (IntKind.wrap .i64 (i39 + 1))), (.bool (decide (i39 < n0))), (.bool r44), more42, d28, d29, d30] H45 (by kernel_rfl) ?_
                  obtain ⟨m', hm, h⟩ := h
                  refine loop_norm ⟨m', hm, _, _, _, _, rfl, h⟩
              · replace h := h.1 (is_eq.t hc)
                refine t_done [(.int .i64 n0), culprits1, d20, (.bool (!r8)), (.agg [(.int .i64 r3), (.int .i64 r4)]), (.bool (r3 != 0)), r2, (.agg [(.int .i64 r12), (.int .i64 r13)]), (.bool r11), (.bool ((r12 != 0) || r11)), (.int .i64 c21), (.bool (decide (c21 < n0))), (.bool r32), (.int .i64 i39), (.bool (decide (i39 < n0))), (.bool true), more42, d28, d29, d30] H43 (by kernel_rfl) ?_
                refine then_norm ?_
                refine w_cond (t := true) rfl (fun _ => ?_) (fun hc => by cases hc)
                refine w_run [0, 0, 1, 1, 0] ?_
                obtain ⟨b53, H54, hb⟩ : ∃ b H', NewB H43 1 [(.int .i64 i39)] b H' := ⟨_, _, rfl, rfl⟩
                replace h := h b53 H54 hb
                refine t_bs true 1 [(.int .i64 0)] [(0, 1, .loc 0)] 1 [(.int .i64 i39)] [(.int .i64 i39)] b53 H54 H43 (by kernel_rfl) (fill_c (vs := [(.int .i64 i39)]) (size := 1) rfl (by kernel_rfl) (by kernel_rfl) (by kernel_rfl)) hb ?_
                obtain ⟨a55, H56, ha, h⟩ := h
                refine t_app true 1 8 more42 (.slice b53 0 1 (some 1)) a55 H56 H54 (by kernel_rfl) ha ?_
                refine t_done [(.int .i64 n0), culprits1, d20, (.bool (!r8)), (.agg [(.int .i64 r3), (.int .i64 r4)]), (.bool (r3 != 0)), r2, (.agg [(.int .i64 r12), (.int .i64 r13)]), (.bool r11), (.bool ((r12 != 0) || r11)), (.int .i64 c21), (.bool (decide (c21 < n0))), (.bool r32), (.int .i64 i39), (.bool (decide (i39 < n0))), (.bool true), a55, d28, d29, d30] H56 (by kernel_rfl) ?_
                refine block_norm ?_
                refine then_norm ?_
                refine w_run [0, 0, 0] ?_
                refine t_done [(.int .i64 n0), culprits1, d20, (.bool (!r8)), (.agg [(.int .i64 r3), (.int .i64 r4)]), (.bool (r3 != 0)), r2, (.agg [(.int .i64 r12), (.int .i64 r13)]), (.bool r11), (.bool ((r12 != 0) || r11)), (.int .i64 c21), (.bool (decide (c21 < n0))), (.bool r32), (.int .i64 (IntKind.wrap .i64 (i39 + 1))), (.bool (decide (i39 < n0))), (.bool true), a55, d28, d29, d30] H56 (by kernel_rfl) ?_
                obtain ⟨m', hm, h⟩ := h
                refine loop_norm ⟨m', hm, _, _, _, _, rfl, h⟩
            · replace h := h.2 (is_dec.f hc)
              refine w_exit ?_
              refine then_exit ?_
              refine loop_exit ?_
              refine block_exit ?_
              refine then_norm ?_
              refine w_seq ?_
              refine w_run [0, 0, 0, 1, 0, 0, 0, 1, 0, 1] ?_
              refine t_call true nbatchbisect_Fails [(.int .i64 n0), culprits1, more42] H43 (by kernel_rfl) h ?_
              clear h
              rintro _ H61 ⟨r58, r59, r60, rfl, h⟩
              obtain ⟨H63, hb⟩ : ∃ H', Dead1 H61 1 H' := ⟨_, ⟨rfl⟩⟩
              replace h := h H63 hb
              refine t_tomb true 1 (.agg [(.int .i64 0), (.int .i64 0)]) [(.int .i64 0), (.int .i64 0)] H63 H61 (by kernel_rfl) rfl hb ?_
              refine t_upd true 2 0 [(.int .i64 0), (.int .i64 0)] (.agg [(.int .i64 r59), (.int .i64 r60)]) [(.int .i64 r59), (.int .i64 r60)] [(.int .i64 r59), (.int .i64 r60)] H63 (by kernel_rfl) rfl (all_c rfl (all_c rfl all_n)) ⟨rfl, Nat.le_of_ble_eq_true (by kernel_rfl), rfl⟩ ?_
              refine t_done [(.int .i64 n0), culprits1, d20, (.bool (!r8)), (.agg [(.int .i64 r3), (.int .i64 r4)]), (.bool (r3 != 0)), r2, (.agg [(.int .i64 r12), (.int .i64 r13)]), (.bool r11), (.bool ((r12 != 0) || r11)), (.int .i64 c21), (.bool (decide (c21 < n0))), (.bool r32), (.int .i64 i39), (.bool (decide (i39 < n0))), d41, more42, (.agg [(.int .i64 r59), (.int .i64 r60)]), (.bool r58), d30] H63 (by kernel_rfl) ?_
              refine then_norm ?_
              refine w_seq ?_
              refine w_run [0, 0, 0, 0, 0, 0, 0] ?_
              refine t_done [(.int .i64 n0), culprits1, d20, (.bool (!r8)), (.agg [(.int .i64 r3), (.int .i64 r4)]), (.bool (r3 != 0)), r2, (.agg [(.int .i64 r12), (.int .i64 r13)]), (.bool r11), (.bool ((r12 != 0) || r11)), (.int .i64 c21), (.bool (decide (c21 < n0))), (.bool r32), (.int .i64 i39), (.bool (decide (i39 < n0))), d41, more42, (.agg [(.int .i64 r59), (.int .i64 r60)]), (.bool r58), (.bool ((r59 != 0) || (!r58)))] H63 (by kernel_rfl) ?_
              refine then_norm ?_
              refine w_cond (t := ((r59 != 0) || (!r58))) rfl (fun hc => ?_) (fun hc => ?_)
              · replace h := h.1 ((is_or is_ne (is_not is_raw)).t hc)
                refine w_seq ?_
                refine w_run [0] ?_
                refine t_done [(.int .i64 n0), culprits1, (.bool false), (.bool (!r8)), (.agg [(.int .i64 r3), (.int .i64 r4)]), (.bool (r3 != 0)), r2, (.agg [(.int .i64 r12), (.int .i64 r13)]), (.bool r11), (.bool ((r12 != 0) || r11)), (.int .i64 c21), (.bool (decide (c21 < n0))), (.bool r32), (.int .i64 i39), (.bool (decide (i39 < n0))), d41, more42, (.agg [(.int .i64 r59), (.int .i64 r60)]), (.bool r58), (.bool ((r59 != 0) || (!r58)))] H63 (by kernel_rfl) ?_
                refine then_norm ?_
                refine w_ret ?_
                refine block_ret ?_
                refine then_ret ?_
                refine loop_ret ?_
                refine block_ret ?_
                refine then_ret ?_
                exact body_ret (vs := [(.bool false)]) _ (by kernel_rfl) rfl h
              · replace h := h.2 ((is_or is_ne (is_not is_raw)).f hc)
                refine w_skip ?_
                refine block_norm ?_
                refine then_norm ?_
                refine w_run [0, 0, 0] ?_
                refine t_done [(.int .i64 n0), culprits1, d20, (.bool (!r8)), (.agg [(.int .i64 r3), (.int .i64 r4)]), (.bool (r3 != 0)), r2, (.agg [(.int .i64 r12), (.int .i64 r13)]), (.bool r11), (.bool ((r12 != 0) || r11)), (.int .i64 (IntKind.wrap .i64 (c21 + 1))), (.bool (decide (c21 < n0))), (.bool r32), (.int .i64 i39), (.bool (decide (i39 < n0))), d41, more42, (.agg [(.int .i64 r59), (.int .i64 r60)]), (.bool r58), (.bool ((r59 != 0) || (!r58)))] H63 (by kernel_rfl) ?_
                obtain ⟨m', hm, h⟩ := h
                refine loop_norm ⟨m', hm, _, _, _, _, _, _, _, _, _, _, _, rfl, h⟩
        · replace h := h.2 (is_dec.f hc)
          refine w_exit ?_
          refine then_exit ?_
          refine loop_exit ?_
          refine block_exit ?_
          refine then_norm ?_
          refine w_seq ?_
          refine w_run [0] ?_
          refine t_done [(.int .i64 n0), culprits1, (.bool true), (.bool (!r8)), (.agg [(.int .i64 r3), (.int .i64 r4)]), (.bool (r3 != 0)), r2, (.agg [(.int .i64 r12), (.int .i64 r13)]), (.bool r11), (.bool ((r12 != 0) || r11)), (.int .i64 c21), (.bool (decide (c21 < n0))), d23, d24, d25, d26, d27, d28, d29, d30] H31 (by kernel_rfl) ?_
          refine then_norm ?_
          refine w_ret ?_
          exact body_ret (vs := [(.bool true)]) _ (by kernel_rfl) rfl h

-- LBatchbisectFailuresAreMonotone
def rf_LBatchbisectFailuresAreMonotone (nFHas nbatchbisect_Fails nLbisectExample : Nat) : RFunc := ⟨5, 17, [.var 5],
 ((.seq (.ops [⟨.move (.k (.bool false)), none, (some 5), true⟩])
 ((.seq (.ops [⟨.move (.k (.empty)), none, (some 9), true⟩])
 ((.seq ((.seq (.ops [⟨.move (.k (.int .i64 0)), none, (some 6), true⟩])
 (.block 0 (.loop ((.seq ((.seq (.ops [⟨.move (.var 6), none, none, true⟩, ⟨.bin .lss .no (.loc 0) (.k (.int .i64 16)), none, (some 7), true⟩])
 (.cond (.var 7) (.skip) (.exit 0))))
 ((.seq (.block 1 ((.seq (.ops [⟨.move (.var 3), none, none, true⟩, ⟨.move (.var 6), none, none, true⟩, ⟨.callS nFHas [(.loc 0), (.loc 1)], none, none, true⟩, ⟨.move (.loc 2), none, none, true⟩, ⟨.move (.var 4), none, none, true⟩, ⟨.move (.var 6), none, none, true⟩, ⟨.callS nFHas [(.loc 4), (.loc 5)], (some (3, false)), none, true⟩, ⟨.pick (.loc 3) (.k (.bool true)) (.loc 6), none, (some 8), true⟩])
 (.cond (.var 8) (.ops [⟨.move (.var 9), none, none, true⟩, ⟨.move (.var 6), none, none, true⟩, ⟨.buildSlice 1 [.int .i64 0] [(0, 1, (.loc 1))] 1, none, none, true⟩, ⟨.append 1 8 (.loc 0) (.loc 2), none, none, true⟩, ⟨.move (.loc 3), none, (some 9), true⟩]) (.skip)))))
 (.ops [⟨.move (.var 6), none, none, true⟩, ⟨.bin .add .no (.loc 0) (.k (.int .i64 1)), none, none, true⟩, ⟨.move (.loc 1), none, (some 6), true⟩])))))))))
 ((.seq (.ops [⟨.move (.var 0), none, none, true⟩, ⟨.move (.var 1), none, none, true⟩, ⟨.move (.var 3), none, none, true⟩, ⟨.callS nbatchbisect_Fails [(.loc 0), (.loc 1), (.loc 2)], none, none, true⟩, ⟨.move (.loc 3), none, none, true⟩, ⟨.extract (.loc 4) 0, none, none, true⟩, ⟨.extract (.loc 4) 1, none, none, true⟩, ⟨.tomb 1 (.k (.agg [.int .i64 0, .int .i64 0])), none, (some 11), true⟩, ⟨.move (.loc 5), none, (some 12), true⟩, ⟨.upd 2 0 (.loc 7) (.loc 6), none, (some 11), true⟩])
 ((.seq (.ops [⟨.move (.var 0), none, none, true⟩, ⟨.move (.var 1), none, none, true⟩, ⟨.move (.var 9), none, none, true⟩, ⟨.callS nbatchbisect_Fails [(.loc 0), (.loc 1), (.loc 2)], none, none, true⟩, ⟨.move (.loc 3), none, none, true⟩, ⟨.extract (.loc 4) 0, none, none, true⟩, ⟨.extract (.loc 4) 1, none, none, true⟩, ⟨.tomb 1 (.k (.agg [.int .i64 0, .int .i64 0])), none, (some 13), true⟩, ⟨.move (.loc 5), none, (some 14), true⟩, ⟨.upd 2 0 (.loc 7) (.loc 6), none, (some 13), true⟩])
 ((.seq (.ops [⟨.move (.var 0), none, none, true⟩, ⟨.move (.var 1), none, none, true⟩, ⟨.append 1 24 (.k (.empty)) (.loc 1), none, none, true⟩, ⟨.move (.var 2), none, none, true⟩, ⟨.append 1 24 (.loc 2) (.loc 3), none, none, true⟩, ⟨.move (.var 3), none, none, true⟩, ⟨.callS nbatchbisect_Fails [(.loc 0), (.loc 4), (.loc 5)], none, none, true⟩, ⟨.move (.loc 6), none, none, true⟩, ⟨.extract (.loc 7) 0, none, none, true⟩, ⟨.extract (.loc 7) 1, none, none, true⟩, ⟨.tomb 1 (.k (.agg [.int .i64 0, .int .i64 0])), none, (some 15), true⟩, ⟨.move (.loc 8), none, (some 16), true⟩, ⟨.upd 2 0 (.loc 10) (.loc 9), none, (some 15), true⟩])
 ((.seq ((.seq (.ops [⟨.callS nLbisectExample [], none, none, true⟩, ⟨.un .not (.loc 0), none, (some 10), true⟩])
 (.cond (.var 10) ((.seq (.ops [⟨.move (.k (.bool false)), none, (some 5), true⟩])
 (.ret))) (.skip))))
 ((.seq (.ops [⟨.field 0 none (.var 11), none, none, true⟩, ⟨.field 0 none (.var 11), none, none, true⟩, ⟨.bin .neq .no (.loc 1) (.k (.int .i64 0)), none, none, true⟩, ⟨.move (.loc 2), none, none, true⟩, ⟨.move (.var 12), none, none, true⟩, ⟨.un .not (.loc 4), none, none, true⟩, ⟨.pick (.loc 3) (.k (.bool true)) (.loc 5), none, none, true⟩, ⟨.move (.loc 6), none, none, true⟩, ⟨.field 0 none (.var 13), none, none, true⟩, ⟨.field 0 none (.var 13), none, none, true⟩, ⟨.bin .neq .no (.loc 9) (.k (.int .i64 0)), none, none, true⟩, ⟨.move (.loc 10), none, none, true⟩, ⟨.move (.var 14), none, none, true⟩, ⟨.pick (.loc 11) (.k (.bool true)) (.loc 12), none, none, true⟩, ⟨.move (.loc 13), none, none, true⟩, ⟨.field 0 none (.var 15), none, none, true⟩, ⟨.field 0 none (.var 15), none, none, true⟩, ⟨.bin .neq .no (.loc 16) (.k (.int .i64 0)), none, none, true⟩, ⟨.move (.loc 17), none, none, true⟩, ⟨.move (.var 16), none, none, true⟩, ⟨.pick (.loc 18) (.k (.bool true)) (.loc 19), none, none, true⟩, ⟨.pick (.loc 14) (.loc 20) (.k (.bool false)), none, none, true⟩, ⟨.pick (.loc 7) (.k (.bool true)) (.loc 21), none, none, true⟩, ⟨.move (.loc 22), none, (some 5), true⟩])
 (.ret)))))))))))))))))⟩
theorem v_LBatchbisectFailuresAreMonotone {F : Nat → Option RFunc} {me nFHas nbatchbisect_Fails nLbisectExample : Nat} (hF : F me = some (rf_LBatchbisectFailuresAreMonotone nFHas nbatchbisect_Fails nLbisectExample)) {fl : Nat} {H : Heap} {Q : AV → Heap → Prop} (n0 : Int) (culprits1 : AV) (more2 : AV) (a3 : AV) (b4 : AV)
  (h : ∃ (J5 : Nat → Int → AV → Heap → Prop) (k6 : Nat), J5 k6 0 .empty H ∧ (∀ (m7 : Nat) (i8 : Int) (both11 : AV) (H12 : Heap), J5 m7 i8 both11 H12 → ((i8 < 16) → Ret F fl nFHas [a3, (.int .i64 i8)] H12 (fun v15 H14 => ∃ (r13 : Bool), v15 = (.bool r13) ∧ ((r13 = true) → ∀ (b25 : Nat) (H26 : Heap), NewB H14 1 [(.int .i64 i8)] b25 H26 → ∃ (a27 : AV) (H28 : Heap), appA fl true 1 8 H26 both11 (.slice b25 0 1 (some 1)) = some (a27, H28) ∧ ∃ m29 : Nat, m29 < m7 ∧ J5 m29 (IntKind.wrap .i64 (i8 + 1)) a27 H28) ∧ (¬(r13 = true) → Ret F fl nFHas [b4, (.int .i64 i8)] H14 (fun v18 H17 => ∃ (r16 : Bool), v18 = (.bool r16) ∧ ((r16 = true) → ∀ (b19 : Nat) (H20 : Heap), NewB H17 1 [(.int .i64 i8)] b19 H20 → ∃ (a21 : AV) (H22 : Heap), appA fl true 1 8 H20 both11 (.slice b19 0 1 (some 1)) = some (a21, H22) ∧ ∃ m23 : Nat, m23 < m7 ∧ J5 m23 (IntKind.wrap .i64 (i8 + 1)) a21 H22) ∧ (¬(r16 = true) → ∃ m24 : Nat, m24 < m7 ∧ J5 m24 (IntKind.wrap .i64 (i8 + 1)) both11 H17))))) ∧ (¬(i8 < 16) → Ret F fl nbatchbisect_Fails [(.int .i64 n0), culprits1, a3] H12 (fun v34 H33 => ∃ (r30 : Bool) (r31 : Int) (r32 : Int), v34 = (.tuple [(.bool r30), (.agg [(.int .i64 r31), (.int .i64 r32)])]) ∧ ∀ (H35 : Heap), Dead1 H33 1 H35 → Ret F fl nbatchbisect_Fails [(.int .i64 n0), culprits1, both11] H35 (fun v40 H39 => ∃ (r36 : Bool) (r37 : Int) (r38 : Int), v40 = (.tuple [(.bool r36), (.agg [(.int .i64 r37), (.int .i64 r38)])]) ∧ ∀ (H41 : Heap), Dead1 H39 1 H41 → ∃ (a42 : AV) (H43 : Heap), appA fl true 1 24 H41 .empty culprits1 = some (a42, H43) ∧ ∃ (a44 : AV) (H45 : Heap), appA fl true 1 24 H43 a42 more2 = some (a44, H45) ∧ Ret F fl nbatchbisect_Fails [(.int .i64 n0), a44, a3] H45 (fun v50 H49 => ∃ (r46 : Bool) (r47 : Int) (r48 : Int), v50 = (.tuple [(.bool r46), (.agg [(.int .i64 r47), (.int .i64 r48)])]) ∧ ∀ (H51 : Heap), Dead1 H49 1 H51 → Ret F fl nLbisectExample [] H51 (fun v54 H53 => ∃ (r52 : Bool), v54 = (.bool r52) ∧ ((¬(r52 = true)) → Q (.bool false) H53) ∧ (¬(¬(r52 = true)) → Q (.bool (((r31 != 0) || (!r30)) || (((r37 != 0) || r36) && ((r47 != 0) || r46)))) H53)))))))) : Ret F fl me [(.int .i64 n0), culprits1, more2, a3, b4] H Q := by
  refine ret_intro hF rfl ?_
  refine w_seq ?_
  refine w_run [0] ?_
  refine t_done [(.int .i64 n0), culprits1, more2, a3, b4, (.bool false), .undef, .undef, .undef, .undef, .undef, .undef, .undef, .undef, .undef, .undef, .undef] H (by kernel_rfl) ?_
  refine then_norm ?_
  refine w_seq ?_
  refine w_run [0] ?_
  refine t_done [(.int .i64 n0), culprits1, more2, a3, b4, (.bool false), .undef, .undef, .undef, .empty, .undef, .undef, .undef, .undef, .undef, .undef, .undef] H (by kernel_rfl) ?_
  refine then_norm ?_
  refine w_seq ?_
  refine w_seq ?_
  refine w_run [0] ?_
  refine t_done [(.int .i64 n0), culprits1, more2, a3, b4, (.bool false), (.int .i64 0), .undef, .undef, .empty, .undef, .undef, .undef, .undef, .undef, .undef, .undef] H (by kernel_rfl) ?_
  refine then_norm ?_
  refine w_block ?_
  obtain ⟨J5, k6, h0, h⟩ := h
  refine w_loop (I := fun mI EI HI => ∃ (i8 : Int) (d9 : AV) (d10 : AV) (both11 : AV), EI = [(.int .i64 n0), culprits1, more2, a3, b4, (.bool false), (.int .i64 i8), d9, d10, both11, .undef, .undef, .undef, .undef, .undef, .undef, .undef] ∧ J5 mI i8 both11 HI) ?_ k6 ⟨_, _, _, _, rfl, h0⟩
  clear h0
  rintro m7 EI H12 ⟨i8, d9, d10, both11, rfl, hJ⟩
  replace h := h m7 i8 both11 H12 hJ
  clear hJ
  refine w_seq ?_
  refine w_seq ?_
  refine w_run [0, 0] ?_
  refine t_done [(.int .i64 n0), culprits1, more2, a3, b4, (.bool false), (.int .i64 i8), (.bool (decide (i8 < 16))), d10, both11, .undef, .undef, .undef, .undef, .undef, .undef, .undef] H12 (by kernel_rfl) ?_
  refine then_norm ?_
  refine w_cond (t := (decide (i8 < 16))) rfl (fun hc => ?_) (fun hc => ?_)
  · replace h := h.1 (is_dec.t hc)
    refine w_skip ?_
    refine then_norm ?_
    refine w_seq ?_
    refine w_block ?_
    refine w_seq ?_
    refine w_run [0, 0, 1, 0, 0, 0, 3, 0] ?_
    refine t_call true nFHas [a3, (.int .i64 i8)] H12 (by kernel_rfl) h ?_
    clear h
    rintro _ H14 ⟨r13, rfl, h⟩
    refine t_gd r13 false (by kernel_rfl) (fun hc => ?_) (fun hc => ?_)
    · replace h := h.2 (is_raw.f hc)
      refine t_call true nFHas [b4, (.int .i64 i8)] H14 (by kernel_rfl) h ?_
      clear h
      rintro _ H17 ⟨r16, rfl, h⟩
      refine t_done [(.int .i64 n0), culprits1, more2, a3, b4, (.bool false), (.int .i64 i8), (.bool (decide (i8 < 16))), (.bool r16), both11, .undef, .undef, .undef, .undef, .undef, .undef, .undef] H17 (by kernel_rfl) ?_
      refine then_norm ?_
      refine w_cond (t := r16) rfl (fun hc => ?_) (fun hc => ?_)
      · replace h := h.1 (is_raw.t hc)
        refine w_run [0, 0, 1, 1, 0] ?_
        obtain ⟨b19, H20, hb⟩ : ∃ b H', NewB H17 1 [(.int .i64 i8)] b H' := ⟨_, _, rfl, rfl⟩
        replace h := h b19 H20 hb
        refine t_bs true 1 [(.int .i64 0)] [(0, 1, .loc 0)] 1 [(.int .i64 i8)] [(.int .i64 i8)] b19 H20 H17 (by kernel_rfl) (fill_c (vs := [(.int .i64 i8)]) (size := 1) rfl (by kernel_rfl) (by kernel_rfl) (by kernel_rfl)) hb ?_
        obtain ⟨a21, H22, ha, h⟩ := h
        refine t_app true 1 8 both11 (.slice b19 0 1 (some 1)) a21 H22 H20 (by kernel_rfl) ha ?_
        refine t_done [(.int .i64 n0), culprits1, more2, a3, b4, (.bool false), (.int .i64 i8), (.bool (decide (i8 < 16))), (.bool r16), a21, .undef, .undef, .undef, .undef, .undef, .undef, .undef] H22 (by kernel_rfl) ?_
        refine block_norm ?_
        refine then_norm ?_
        refine w_run [0, 0, 0] ?_
        refine t_done [(.int .i64 n0), culprits1, more2, a3, b4, (.bool false), (.int .i64 (IntKind.wrap .i64 (i8 + 1))), (.bool (decide (i8 < 16))), (.bool r16), a21, .undef, .undef, .undef, .undef, .undef, .undef, .undef] H22 (by kernel_rfl) ?_
        obtain ⟨m', hm, h⟩ := h
        refine loop_norm ⟨m', hm, _, _, _, _, rfl, h⟩
      · replace h := h.2 (is_raw.f hc)
        refine w_skip ?_
        refine block_norm ?_
        refine then_norm ?_
        refine w_run [0, 0, 0] ?_
        refine t_done [(.int .i64 n0), culprits1, more2, a3, b4, (.bool false), (.int .i64 (IntKind.wrap .i64 (i8 + 1))), (.bool (decide (i8 < 16))), (.bool r16), both11, .undef, .undef, .undef, .undef, .undef, .undef, .undef] H17 (by kernel_rfl) ?_
        obtain ⟨m', hm, h⟩ := h
        refine loop_norm ⟨m', hm, _, _, _, _, rfl, h⟩
    · replace h := h.1 (is_raw.t hc)
      refine t_done [(.int .i64 n0), culprits1, more2, a3, b4, (.bool false), (.int .i64 i8), (.bool (decide (i8 < 16))), (.bool true), both11, .undef, .undef, .undef, .undef, .undef, .undef, .undef] H14 (by kernel_rfl) ?_
      refine then_norm ?_
      refine w_cond (t := true) rfl (fun _ => ?_) (fun hc => by cases hc)
      refine w_run [0, 0, 1, 1, 0] ?_
      obtain ⟨b25, H26, hb⟩ : ∃ b H', NewB H14 1 [(.int .i64 i8)] b H' := ⟨_, _, rfl, rfl⟩
      replace h := h b25 H26 hb
      refine t_bs true 1 [(.int .i64 0)] [(0, 1, .loc 0)] 1 [(.int .i64 i8)] [(.int .i64 i8)] b25 H26 H14 (by kernel_rfl) (fill_c (vs := [(.int .i64 i8)]) (size := 1) rfl (by kernel_rfl) (by kernel_rfl) (by kernel_rfl)) hb ?_
      obtain ⟨a27, H28, ha, h⟩ := h
      refine t_app true 1 8 both11 (.slice b25 0 1 (some 1)) a27 H28 H26 (by kernel_rfl) ha ?_
      refine t_done [(.int .i64 n0), culprits1, more2, a3, b4, (.bool false), (.int .i64 i8), (.bool (decide (i8 < 16))), (.bool true), a27, .undef, .undef, .undef, .undef, .undef, .undef, .undef] H28 (by kernel_rfl) ?_
      refine block_norm ?_
      refine then_norm ?_
      refine w_run [0, 0, 0] ?_
      refine t_done [(.int .i64 n0), culprits1, more2, a3, b4, (.bool false), (.int .i64 (IntKind.wrap .i64 (i8 + 1))), (.bool (decide (i8 < 16))), (.bool true), a27, .undef, .undef, .undef, .undef, .undef, .undef, .undef] H28 (by kernel_rfl) ?_
      obtain ⟨m', hm, h⟩ := h
      refine loop_norm ⟨m', hm, _, _, _, _, rfl, h⟩
  · replace h := h.2 (is_dec.f hc)
    refine w_exit ?_
    refine then_exit ?_
    refine loop_exit ?_
    refine block_exit ?_
    refine then_norm ?_
    refine w_seq ?_
    refine w_run [0, 0, 0, 1, 0, 0, 0, 1, 0, 1] ?_
    refine t_call true nbatchbisect_Fails [(.int .i64 n0), culprits1, a3] H12 (by kernel_rfl) h ?_
    clear h
    rintro _ H33 ⟨r30, r31, r32, rfl, h⟩
    obtain ⟨H35, hb⟩ : ∃ H', Dead1 H33 1 H' := ⟨_, ⟨rfl⟩⟩
    replace h := h H35 hb
    refine t_tomb true 1 (.agg [(.int .i64 0), (.int .i64 0)]) [(.int .i64 0), (.int .i64 0)] H35 H33 (by kernel_rfl) rfl hb ?_
    refine t_upd true 2 0 [(.int .i64 0), (.int .i64 0)] (.agg [(.int .i64 r31), (.int .i64 r32)]) [(.int .i64 r31), (.int .i64 r32)] [(.int .i64 r31), (.int .i64 r32)] H35 (by kernel_rfl) rfl (all_c rfl (all_c rfl all_n)) ⟨rfl, Nat.le_of_ble_eq_true (by kernel_rfl), rfl⟩ ?_
    refine t_done [(.int .i64 n0), culprits1, more2, a3, b4, (.bool false), (.int .i64 i8), (.bool (decide (i8 < 16))), d10, both11, .undef, (.agg [(.int .i64 r31), (.int .i64 r32)]), (.bool r30), .undef, .undef, .undef, .undef] H35 (by kernel_rfl) ?_
    refine then_norm ?_
    refine w_seq ?_
    refine w_run [0, 0, 0, 1, 0, 0, 0, 1, 0, 1] ?_
    refine t_call true nbatchbisect_Fails [(.int .i64 n0), culprits1, both11] H35 (by kernel_rfl) h ?_
    clear h
    rintro _ H39 ⟨r36, r37, r38, rfl, h⟩
    obtain ⟨H41, hb⟩ : ∃ H', Dead1 H39 1 H' := ⟨_, ⟨rfl⟩⟩
    replace h := h H41 hb
    refine t_tomb true 1 (.agg [(.int .i64 0), (.int .i64 0)]) [(.int .i64 0), (.int .i64 0)] H41 H39 (by kernel_rfl) rfl hb ?_
    refine t_upd true 2 0 [(.int .i64 0), (.int .i64 0)] (.agg [(.int .i64 r37), (.int .i64 r38)]) [(.int .i64 r37), (.int .i64 r38)] [(.int .i64 r37), (.int .i64 r38)] H41 (by kernel_rfl) rfl (all_c rfl (all_c rfl all_n)) ⟨rfl, Nat.le_of_ble_eq_true (by kernel_rfl), rfl⟩ ?_
    refine t_done [(.int .i64 n0), culprits1, more2, a3, b4, (.bool false), (.int .i64 i8), (.bool (decide (i8 < 16))), d10, both11, .undef, (.agg [(.int .i64 r31), (.int .i64 r32)]), (.bool r30), (.agg [(.int .i64 r37), (.int .i64 r38)]), (.bool r36), .undef, .undef] H41 (by kernel_rfl) ?_
    refine then_norm ?_
    refine w_seq ?_
    refine w_run [0, 0, 1, 0, 1, 0, 1, 0, 0, 0, 1, 0, 1] ?_
    obtain ⟨a42, H43, ha, h⟩ := h
    refine t_app true 1 24 .empty culprits1 a42 H43 H41 (by kernel_rfl) ha ?_
    obtain ⟨a44, H45, ha, h⟩ := h
    refine t_app true 1 24 a42 more2 a44 H45 H43 (by kernel_rfl) ha ?_
    refine t_call true nbatchbisect_Fails [(.int .i64 n0), a44, a3] H45 (by kernel_rfl) h ?_
    clear h
    rintro _ H49 ⟨r46, r47, r48, rfl, h⟩
    obtain ⟨H51, hb⟩ : ∃ H', Dead1 H49 1 H' := ⟨_, ⟨rfl⟩⟩
    replace h := h H51 hb
    refine t_tomb true 1 (.agg [(.int .i64 0), (.int .i64 0)]) [(.int .i64 0), (.int .i64 0)] H51 H49 (by kernel_rfl) rfl hb ?_
    refine t_upd true 2 0 [(.int .i64 0), (.int .i64 0)] (.agg [(.int .i64 r47), (.int .i64 r48)]) [(.int .i64 r47), (.int .i64 r48)] [(.int .i64 r47), (.int .i64 r48)] H51 (by kernel_rfl) rfl (all_c rfl (all_c rfl all_n)) ⟨rfl, Nat.le_of_ble_eq_true (by kernel_rfl), rfl⟩ ?_
    refine t_done [(.int .i64 n0), culprits1, more2, a3, b4, (.bool false), (.int .i64 i8), (.bool (decide (i8 < 16))), d10, both11, .undef, (.agg [(.int .i64 r31), (.int .i64 r32)]), (.bool r30), (.agg [(.int .i64 r37), (.int .i64 r38)]), (.bool r36), (.agg [(.int .i64 r47), (.int .i64 r48)]), (.bool r46)] H51 (by kernel_rfl) ?_
    refine then_norm ?_
    refine w_seq ?_
    refine w_seq ?_
    refine w_run [1, 0] ?_
    refine t_call true nLbisectExample [] H51 (by kernel_rfl) h ?_
    clear h
    rintro _ H53 ⟨r52, rfl, h⟩
    refine t_done [(.int .i64 n0), culprits1, more2, a3, b4, (.bool false), (.int .i64 i8), (.bool (decide (i8 < 16))), d10, both11, (.bool (!r52)), (.agg [(.int .i64 r31), (.int .i64 r32)]), (.bool r30), (.agg [(.int .i64 r37), (.int .i64 r38)]), (.bool r36), (.agg [(.int .i64 r47), (.int .i64 r48)]), (.bool r46)] H53 (by kernel_rfl) ?_
    refine then_norm ?_
    refine w_cond (t := (!r52)) rfl (fun hc => ?_) (fun hc => ?_)
    · replace h := h.1 ((is_not is_raw).t hc)
      refine w_seq ?_
      refine w_run [0] ?_
      refine t_done [(.int .i64 n0), culprits1, more2, a3, b4, (.bool false), (.int .i64 i8), (.bool (decide (i8 < 16))), d10, both11, (.bool (!r52)), (.agg [(.int .i64 r31), (.int .i64 r32)]), (.bool r30), (.agg [(.int .i64 r37), (.int .i64 r38)]), (.bool r36), (.agg [(.int .i64 r47), (.int .i64 r48)]), (.bool r46)] H53 (by kernel_rfl) ?_
      refine then_norm ?_
      refine w_ret ?_
      refine then_ret ?_
      exact body_ret (vs := [(.bool false)]) _ (by kernel_rfl) rfl h
    · replace h := h.2 ((is_not is_raw).f hc)
      refine w_skip ?_
      refine then_norm ?_
      refine w_seq ?_
      refine w_run [0, 0, 0, 0, 0, 0, 0, 0, 0, 0, 0, 0, 0, 0, 0, 0, 0, 0, 0, 0, 0, 0, 0, 0] ?_
      refine t_done [(.int .i64 n0), culprits1, more2, a3, b4, (.bool (((r31 != 0) || (!r30)) || (((r37 != 0) || r36) && ((r47 != 0) || r46)))), (.int .i64 i8), (.bool (decide (i8 < 16))), d10, both11, (.bool (!r52)), (.agg [(.int .i64 r31), (.int .i64 r32)]), (.bool r30), (.agg [(.int .i64 r37), (.int .i64 r38)]), (.bool r36), (.agg [(.int .i64 r47), (.int .i64 r48)]), (.bool r46)] H53 (by kernel_rfl) ?_
      refine then_norm ?_
      refine w_ret ?_
      exact body_ret (vs := [(.bool (((r31 != 0) || (!r30)) || (((r37 != 0) || r36) && ((r47 != 0) || r46))))]) _ (by kernel_rfl) rfl h

-- LbisectExample
def rf_LbisectExample (nbatchbisect_First nbatchbisect_Minimal nbatchbisect_Greedy nbatchbisect_Fails nFEqualInts : Nat) : RFunc := ⟨0, 10, [.var 0],
 ((.seq (.ops [⟨.move (.k (.bool false)), none, (some 0), true⟩])
 ((.seq (.ops [⟨.buildSlice 1 [.int .i64 0] [(0, 1, (.k (.int .i64 2)))] 1, none, none, true⟩, ⟨.buildSlice 1 [.empty] [(0, 1, (.loc 0))] 1, none, none, true⟩, ⟨.callS nbatchbisect_First [(.k (.int .i64 4)), (.loc 1)], none, none, true⟩, ⟨.move (.loc 2), none, none, true⟩, ⟨.extract (.loc 3) 0, none, none, true⟩, ⟨.extract (.loc 3) 1, none, none, true⟩, ⟨.extract (.loc 3) 2, none, none, true⟩, ⟨.tomb 1 (.k (.agg [.int .i64 0, .int .i64 0])), none, (some 2), true⟩, ⟨.move (.loc 4), none, (some 1), true⟩, ⟨.move (.loc 5), none, (some 7), true⟩, ⟨.upd 2 0 (.loc 7) (.loc 6), none, (some 2), true⟩])
 ((.seq (.ops [⟨.buildSlice 1 [.int .i64 0] [(0, 1, (.k (.int .i64 0))), (1, 1, (.k (.int .i64 3)))] 2, none, none, true⟩, ⟨.buildSlice 1 [.int .i64 0] [(0, 1, (.k (.int .i64 1))), (1, 1, (.k (.int .i64 2)))] 2, none, none, true⟩, ⟨.buildSlice 1 [.empty] [(0, 1, (.loc 0)), (1, 1, (.loc 1))] 2, none, none, true⟩, ⟨.callS nbatchbisect_Minimal [(.k (.int .i64 4)), (.loc 2)], none, none, true⟩, ⟨.move (.loc 3), none, none, true⟩, ⟨.extract (.loc 4) 0, none, none, true⟩, ⟨.extract (.loc 4) 1, none, none, true⟩, ⟨.tomb 1 (.k (.agg [.int .i64 0, .int .i64 0])), none, (some 3), true⟩, ⟨.move (.loc 5), none, (some 8), true⟩, ⟨.upd 2 0 (.loc 7) (.loc 6), none, (some 3), true⟩])
 ((.seq (.ops [⟨.buildSlice 1 [.int .i64 0] [(0, 1, (.k (.int .i64 0))), (1, 1, (.k (.int .i64 1)))] 2, none, none, true⟩, ⟨.buildSlice 1 [.empty] [(0, 1, (.loc 0))] 1, none, none, true⟩, ⟨.callS nbatchbisect_Greedy [(.k (.int .i64 3)), (.loc 1)], none, none, true⟩, ⟨.move (.loc 2), none, none, true⟩, ⟨.extract (.loc 3) 0, none, none, true⟩, ⟨.extract (.loc 3) 1, none, none, true⟩, ⟨.tomb 1 (.k (.agg [.int .i64 0, .int .i64 0])), none, (some 4), true⟩, ⟨.move (.loc 4), none, (some 9), true⟩, ⟨.upd 2 0 (.loc 6) (.loc 5), none, (some 4), true⟩])
 ((.seq (.ops [⟨.buildSlice 1 [.int .i64 0] [(0, 1, (.k (.int .i64 1))), (1, 1, (.k (.int .i64 2)))] 2, none, none, true⟩, ⟨.buildSlice 1 [.empty] [(0, 1, (.loc 0))] 1, none, none, true⟩, ⟨.buildSlice 1 [.int .i64 0] [(0, 1, (.k (.int .i64 0))), (1, 1, (.k (.int .i64 1))), (2, 1, (.k (.int .i64 2)))] 3, none, none, true⟩, ⟨.callS nbatchbisect_Fails [(.k (.int .i64 3)), (.loc 1), (.loc 2)], none, none, true⟩, ⟨.move (.loc 3), none, none, true⟩, ⟨.extract (.loc 4) 0, none, none, true⟩, ⟨.extract (.loc 4) 1, none, none, true⟩, ⟨.tomb 1 (.k (.agg [.int .i64 0, .int .i64 0])), none, (some 5), true⟩, ⟨.move (.loc 5), none, (some 6), true⟩, ⟨.upd 2 0 (.loc 7) (.loc 6), none, (some 5), true⟩])
 ((.seq (.ops [⟨.move (.var 1), none, none, true⟩, ⟨.bin .eql .no (.loc 0) (.k (.int .i64 2)), none, none, true⟩, ⟨.move (.loc 1), none, none, true⟩, ⟨.field 0 none (.var 2), none, none, true⟩, ⟨.field 0 none (.var 2), none, none, true⟩, ⟨.bin .eql .no (.loc 4) (.k (.int .i64 0)), none, none, true⟩, ⟨.pick (.loc 2) (.loc 5) (.k (.bool false)), none, none, true⟩, ⟨.move (.loc 6), none, none, true⟩, ⟨.field 0 none (.var 3), none, none, true⟩, ⟨.field 0 none (.var 3), none, none, true⟩, ⟨.bin .eql .no (.loc 9) (.k (.int .i64 0)), none, none, true⟩, ⟨.pick (.loc 7) (.loc 10) (.k (.bool false)), none, none, true⟩, ⟨.move (.loc 11), none, none, true⟩, ⟨.field 0 none (.var 4), none, none, true⟩, ⟨.field 0 none (.var 4), none, none, true⟩, ⟨.bin .eql .no (.loc 14) (.k (.int .i64 0)), none, none, true⟩, ⟨.pick (.loc 12) (.loc 15) (.k (.bool false)), none, none, true⟩, ⟨.move (.loc 16), none, none, true⟩, ⟨.field 0 none (.var 5), none, none, true⟩, ⟨.field 0 none (.var 5), none, none, true⟩, ⟨.bin .eql .no (.loc 19) (.k (.int .i64 0)), none, none, true⟩, ⟨.pick (.loc 17) (.loc 20) (.k (.bool false)), none, none, true⟩, ⟨.move (.loc 21), none, none, true⟩, ⟨.move (.var 6), none, none, true⟩, ⟨.pick (.loc 22) (.loc 23) (.k (.bool false)), none, none, true⟩, ⟨.move (.loc 24), none, none, true⟩, ⟨.move (.var 7), none, none, true⟩, ⟨.buildSlice 1 [.int .i64 0] [(0, 1, (.k (.int .i64 4))), (1, 1, (.k (.int .i64 2))), (2, 1, (.k (.int .i64 3)))] 3, (some (25, true)), none, true⟩, ⟨.callS nFEqualInts [(.loc 26), (.loc 27)], (some (25, true)), none, true⟩, ⟨.pick (.loc 25) (.loc 28) (.k (.bool false)), none, none, true⟩, ⟨.move (.loc 29), none, none, true⟩, ⟨.move (.var 8), none, none, true⟩, ⟨.buildSlice 1 [.int .i64 0] [(0, 1, (.k (.int .i64 1))), (1, 1, (.k (.int .i64 2)))] 2, (some (30, true)), none, true⟩, ⟨.callS nFEqualInts [(.loc 31), (.loc 32)], (some (30, true)), none, true⟩, ⟨.pick (.loc 30) (.loc 33) (.k (.bool false)), none, none, true⟩, ⟨.move (.loc 34), none, none, true⟩, ⟨.move (.var 9), none, none, true⟩, ⟨.buildSlice 1 [.int .i64 0] [(0, 1, (.k (.int .i64 0))), (1, 1, (.k (.int .i64 2)))] 2, (some (35, true)), none, true⟩, ⟨.callS nFEqualInts [(.loc 36), (.loc 37)], (some (35, true)), none, true⟩, ⟨.pick (.loc 35) (.loc 38) (.k (.bool false)), none, none, true⟩, ⟨.move (.loc 39), none, (some 0), true⟩])
 (.ret)))))))))))))⟩
theorem v_LbisectExample {F : Nat → Option RFunc} {me nbatchbisect_First nbatchbisect_Minimal nbatchbisect_Greedy nbatchbisect_Fails nFEqualInts : Nat} (hF : F me = some (rf_LbisectExample nbatchbisect_First nbatchbisect_Minimal nbatchbisect_Greedy nbatchbisect_Fails nFEqualInts)) {fl : Nat} {H : Heap} {Q : AV → Heap → Prop} 
  (h : ∀ (b0 : Nat) (H1 : Heap), NewB H 1 [(.int .i64 2)] b0 H1 → ∀ (b2 : Nat) (H3 : Heap), NewB H1 1 [(.slice b0 0 1 (some 1))] b2 H3 → Ret F fl nbatchbisect_First [(.int .i64 4), (.slice b2 0 1 (some 1))] H3 (fun v9 H8 => ∃ (r4 : Int) (r5 : AV) (r6 : Int) (r7 : Int), v9 = (.tuple [(.int .i64 r4), r5, (.agg [(.int .i64 r6), (.int .i64 r7)])]) ∧ ∀ (H10 : Heap), Dead1 H8 1 H10 → ∀ (b11 : Nat) (H12 : Heap), NewB H10 1 [(.int .i64 0), (.int .i64 3)] b11 H12 → ∀ (b13 : Nat) (H14 : Heap), NewB H12 1 [(.int .i64 1), (.int .i64 2)] b13 H14 → ∀ (b15 : Nat) (H16 : Heap), NewB H14 1 [(.slice b11 0 2 (some 2)), (.slice b13 0 2 (some 2))] b15 H16 → Ret F fl nbatchbisect_Minimal [(.int .i64 4), (.slice b15 0 2 (some 2))] H16 (fun v21 H20 => ∃ (r17 : AV) (r18 : Int) (r19 : Int), v21 = (.tuple [r17, (.agg [(.int .i64 r18), (.int .i64 r19)])]) ∧ ∀ (H22 : Heap), Dead1 H20 1 H22 → ∀ (b23 : Nat) (H24 : Heap), NewB H22 1 [(.int .i64 0), (.int .i64 1)] b23 H24 → ∀ (b25 : Nat) (H26 : Heap), NewB H24 1 [(.slice b23 0 2 (some 2))] b25 H26 → Ret F fl nbatchbisect_Greedy [(.int .i64 3), (.slice b25 0 1 (some 1))] H26 (fun v31 H30 => ∃ (r27 : AV) (r28 : Int) (r29 : Int), v31 = (.tuple [r27, (.agg [(.int .i64 r28), (.int .i64 r29)])]) ∧ ∀ (H32 : Heap), Dead1 H30 1 H32 → ∀ (b33 : Nat) (H34 : Heap), NewB H32 1 [(.int .i64 1), (.int .i64 2)] b33 H34 → ∀ (b35 : Nat) (H36 : Heap), NewB H34 1 [(.slice b33 0 2 (some 2))] b35 H36 → ∀ (b37 : Nat) (H38 : Heap), NewB H36 1 [(.int .i64 0), (.int .i64 1), (.int .i64 2)] b37 H38 → Ret F fl nbatchbisect_Fails [(.int .i64 3), (.slice b35 0 1 (some 1)), (.slice b37 0 3 (some 3))] H38 (fun v43 H42 => ∃ (r39 : Bool) (r40 : Int) (r41 : Int), v43 = (.tuple [(.bool r39), (.agg [(.int .i64 r40), (.int .i64 r41)])]) ∧ ∀ (H44 : Heap), Dead1 H42 1 H44 → ((((((((((((r4 = 2) ∧ (r6 = 0))) ∧ (r18 = 0))) ∧ (r28 = 0))) ∧ (r40 = 0))) ∧ (r39 = true))) → ∀ (b45 : Nat) (H46 : Heap), NewB H44 1 [(.int .i64 4), (.int .i64 2), (.int .i64 3)] b45 H46 → Ret F fl nFEqualInts [r5, (.slice b45 0 3 (some 3))] H46 (fun v49 H48 => ∃ (r47 : Bool), v49 = (.bool r47) ∧ ((r47 = true) → ∀ (b50 : Nat) (H51 : Heap), NewB H48 1 [(.int .i64 1), (.int .i64 2)] b50 H51 → Ret F fl nFEqualInts [r17, (.slice b50 0 2 (some 2))] H51 (fun v54 H53 => ∃ (r52 : Bool), v54 = (.bool r52) ∧ ((r52 = true) → ∀ (b55 : Nat) (H56 : Heap), NewB H53 1 [(.int .i64 0), (.int .i64 2)] b55 H56 → Ret F fl nFEqualInts [r27, (.slice b55 0 2 (some 2))] H56 (fun v59 H58 => ∃ (r57 : Bool), v59 = (.bool r57) ∧ Q (.bool r57) H58)) ∧ (¬(r52 = true) → Q (.bool false) H53))) ∧ (¬(r47 = true) → Q (.bool false) H48))) ∧ (¬(((((((((((r4 = 2) ∧ (r6 = 0))) ∧ (r18 = 0))) ∧ (r28 = 0))) ∧ (r40 = 0))) ∧ (r39 = true))) → Q (.bool false) H44)))))) : Ret F fl me [] H Q := by
  refine ret_intro hF rfl ?_
  refine w_seq ?_
  refine w_run [0] ?_
  refine t_done [(.bool false), .undef, .undef, .undef, .undef, .undef, .undef, .undef, .undef, .undef] H (by kernel_rfl) ?_
  refine then_norm ?_
  refine w_seq ?_
  refine w_run [1, 1, 1, 0, 0, 0, 0, 1, 0, 0, 1] ?_
  obtain ⟨b0, H1, hb⟩ : ∃ b H', NewB H 1 [(.int .i64 2)] b H' := ⟨_, _, rfl, rfl⟩
  replace h := h b0 H1 hb
  refine t_bs true 1 [(.int .i64 0)] [(0, 1, .loc 0)] 1 [(.int .i64 2)] [(.int .i64 2)] b0 H1 H (by kernel_rfl) (fill_c (vs := [(.int .i64 2)]) (size := 1) rfl (by kernel_rfl) (by kernel_rfl) (by kernel_rfl)) hb ?_
  obtain ⟨b2, H3, hb⟩ : ∃ b H', NewB H1 1 [(.slice b0 0 1 (some 1))] b H' := ⟨_, _, rfl, rfl⟩
  replace h := h b2 H3 hb
  refine t_bs true 1 [.empty] [(0, 1, .loc 0)] 1 [(.slice b0 0 1 (some 1))] [(.slice b0 0 1 (some 1))] b2 H3 H1 (by kernel_rfl) (fill_c (vs := [(.slice b0 0 1 (some 1))]) (size := 1) rfl (by kernel_rfl) (by kernel_rfl) (by kernel_rfl)) hb ?_
  refine t_call true nbatchbisect_First [(.int .i64 4), (.slice b2 0 1 (some 1))] H3 (by kernel_rfl) h ?_
  clear h
  rintro _ H8 ⟨r4, r5, r6, r7, rfl, h⟩
  obtain ⟨H10, hb⟩ : ∃ H', Dead1 H8 1 H' := ⟨_, ⟨rfl⟩⟩
  replace h := h H10 hb
  refine t_tomb true 1 (.agg [(.int .i64 0), (.int .i64 0)]) [(.int .i64 0), (.int .i64 0)] H10 H8 (by kernel_rfl) rfl hb ?_
  refine t_upd true 2 0 [(.int .i64 0), (.int .i64 0)] (.agg [(.int .i64 r6), (.int .i64 r7)]) [(.int .i64 r6), (.int .i64 r7)] [(.int .i64 r6), (.int .i64 r7)] H10 (by kernel_rfl) rfl (all_c rfl (all_c rfl all_n)) ⟨rfl, Nat.le_of_ble_eq_true (by kernel_rfl), rfl⟩ ?_
  refine t_done [(.bool false), (.int .i64 r4), (.agg [(.int .i64 r6), (.int .i64 r7)]), .undef, .undef, .undef, .undef, r5, .undef, .undef] H10 (by kernel_rfl) ?_
  refine then_norm ?_
  refine w_seq ?_
  refine w_run [1, 1, 1, 1, 0, 0, 0, 1, 0, 1] ?_
  obtain ⟨b11, H12, hb⟩ : ∃ b H', NewB H10 1 [(.int .i64 0), (.int .i64 3)] b H' := ⟨_, _, rfl, rfl⟩
  replace h := h b11 H12 hb
  refine t_bs true 1 [(.int .i64 0)] [(0, 1, .loc 0), (1, 1, .loc 1)] 2 [(.int .i64 0), (.int .i64 3)] [(.int .i64 0), (.int .i64 3)] b11 H12 H10 (by kernel_rfl) (fill_c (vs := [(.int .i64 0)]) (size := 1) rfl (by kernel_rfl) (by kernel_rfl) (fill_c (vs := [(.int .i64 3)]) (size := 1) rfl (by kernel_rfl) (by kernel_rfl) (by kernel_rfl))) hb ?_
  obtain ⟨b13, H14, hb⟩ : ∃ b H', NewB H12 1 [(.int .i64 1), (.int .i64 2)] b H' := ⟨_, _, rfl, rfl⟩
  replace h := h b13 H14 hb
  refine t_bs true 1 [(.int .i64 0)] [(0, 1, .loc 0), (1, 1, .loc 1)] 2 [(.int .i64 1), (.int .i64 2)] [(.int .i64 1), (.int .i64 2)] b13 H14 H12 (by kernel_rfl) (fill_c (vs := [(.int .i64 1)]) (size := 1) rfl (by kernel_rfl) (by kernel_rfl) (fill_c (vs := [(.int .i64 2)]) (size := 1) rfl (by kernel_rfl) (by kernel_rfl) (by kernel_rfl))) hb ?_
  obtain ⟨b15, H16, hb⟩ : ∃ b H', NewB H14 1 [(.slice b11 0 2 (some 2)), (.slice b13 0 2 (some 2))] b H' := ⟨_, _, rfl, rfl⟩
  replace h := h b15 H16 hb
  refine t_bs true 1 [.empty] [(0, 1, .loc 0), (1, 1, .loc 1)] 2 [(.slice b11 0 2 (some 2)), (.slice b13 0 2 (some 2))] [(.slice b11 0 2 (some 2)), (.slice b13 0 2 (some 2))] b15 H16 H14 (by kernel_rfl) (fill_c (vs := [(.slice b11 0 2 (some 2))]) (size := 1) rfl (by kernel_rfl) (by kernel_rfl) (fill_c (vs := [(.slice b13 0 2 (some 2))]) (size := 1) rfl (by kernel_rfl) (by kernel_rfl) (by kernel_rfl))) hb ?_
  refine t_call true nbatchbisect_Minimal [(.int .i64 4), (.slice b15 0 2 (some 2))] H16 (by kernel_rfl) h ?_
  clear h
  rintro _ H20 ⟨r17, r18, r19, rfl, h⟩
  obtain ⟨H22, hb⟩ : ∃ H', Dead1 H20 1 H' := ⟨_, ⟨rfl⟩⟩
  replace h := h H22 hb
  refine t_tomb true 1 (.agg [(.int .i64 0), (.int .i64 0)]) [(.int .i64 0), (.int .i64 0)] H22 H20 (by kernel_rfl) rfl hb ?_
  refine t_upd true 2 0 [(.int .i64 0), (.int .i64 0)] (.agg [(.int .i64 r18), (.int .i64 r19)]) [(.int .i64 r18), (.int .i64 r19)] [(.int .i64 r18), (.int .i64 r19)] H22 (by kernel_rfl) rfl (all_c rfl (all_c rfl all_n)) ⟨rfl, Nat.le_of_ble_eq_true (by kernel_rfl), rfl⟩ ?_
  refine t_done [(.bool false), (.int .i64 r4), (.agg [(.int .i64 r6), (.int .i64 r7)]), (.agg [(.int .i64 r18), (.int .i64 r19)]), .undef, .undef, .undef, r5, r17, .undef] H22 (by kernel_rfl) ?_
  refine then_norm ?_
  refine w_seq ?_
  refine w_run [1, 1, 1, 0, 0, 0, 1, 0, 1] ?_
  obtain ⟨b23, H24, hb⟩ : ∃ b H', NewB H22 1 [(.int .i64 0), (.int .i64 1)] b H' := ⟨_, _, rfl, rfl⟩
  replace h := h b23 H24 hb
  refine t_bs true 1 [(.int .i64 0)] [(0, 1, .loc 0), (1, 1, .loc 1)] 2 [(.int .i64 0), (.int .i64 1)] [(.int .i64 0), (.int .i64 1)] b23 H24 H22 (by kernel_rfl) (fill_c (vs := [(.int .i64 0)]) (size := 1) rfl (by kernel_rfl) (by kernel_rfl) (fill_c (vs := [(.int .i64 1)]) (size := 1) rfl (by kernel_rfl) (by kernel_rfl) (by kernel_rfl))) hb ?_
  obtain ⟨b25, H26, hb⟩ : ∃ b H', NewB H24 1 [(.slice b23 0 2 (some 2))] b H' := ⟨_, _, rfl, rfl⟩
  replace h := h b25 H26 hb
  refine t_bs true 1 [.empty] [(0, 1, .loc 0)] 1 [(.slice b23 0 2 (some 2))] [(.slice b23 0 2 (some 2))] b25 H26 H24 (by kernel_rfl) (fill_c (vs := [(.slice b23 0 2 (some 2))]) (size := 1) rfl (by kernel_rfl) (by kernel_rfl) (by kernel_rfl)) hb ?_
  refine t_call true nbatchbisect_Greedy [(.int .i64 3), (.slice b25 0 1 (some 1))] H26 (by kernel_rfl) h ?_
  clear h
  rintro _ H30 ⟨r27, r28, r29, rfl, h⟩
  obtain ⟨H32, hb⟩ : ∃ H', Dead1 H30 1 H' := ⟨_, ⟨rfl⟩⟩
  replace h := h H32 hb
  refine t_tomb true 1 (.agg [(.int .i64 0), (.int .i64 0)]) [(.int .i64 0), (.int .i64 0)] H32 H30 (by kernel_rfl) rfl hb ?_
  refine t_upd true 2 0 [(.int .i64 0), (.int .i64 0)] (.agg [(.int .i64 r28), (.int .i64 r29)]) [(.int .i64 r28), (.int .i64 r29)] [(.int .i64 r28), (.int .i64 r29)] H32 (by kernel_rfl) rfl (all_c rfl (all_c rfl all_n)) ⟨rfl, Nat.le_of_ble_eq_true (by kernel_rfl), rfl⟩ ?_
  refine t_done [(.bool false), (.int .i64 r4), (.agg [(.int .i64 r6), (.int .i64 r7)]), (.agg [(.int .i64 r18), (.int .i64 r19)]), (.agg [(.int .i64 r28), (.int .i64 r29)]), .undef, .undef, r5, r17, r27] H32 (by kernel_rfl) ?_
  refine then_norm ?_
  refine w_seq ?_
  refine w_run [1, 1, 1, 1, 0, 0, 0, 1, 0, 1] ?_
  obtain ⟨b33, H34, hb⟩ : ∃ b H', NewB H32 1 [(.int .i64 1), (.int .i64 2)] b H' := ⟨_, _, rfl, rfl⟩
  replace h := h b33 H34 hb
  refine t_bs true 1 [(.int .i64 0)] [(0, 1, .loc 0), (1, 1, .loc 1)] 2 [(.int .i64 1), (.int .i64 2)] [(.int .i64 1), (.int .i64 2)] b33 H34 H32 (by kernel_rfl) (fill_c (vs := [(.int .i64 1)]) (size := 1) rfl (by kernel_rfl) (by kernel_rfl) (fill_c (vs := [(.int .i64 2)]) (size := 1) rfl (by kernel_rfl) (by kernel_rfl) (by kernel_rfl))) hb ?_
  obtain ⟨b35, H36, hb⟩ : ∃ b H', NewB H34 1 [(.slice b33 0 2 (some 2))] b H' := ⟨_, _, rfl, rfl⟩
  replace h := h b35 H36 hb
  refine t_bs true 1 [.empty] [(0, 1, .loc 0)] 1 [(.slice b33 0 2 (some 2))] [(.slice b33 0 2 (some 2))] b35 H36 H34 (by kernel_rfl) (fill_c (vs := [(.slice b33 0 2 (some 2))]) (size := 1) rfl (by kernel_rfl) (by kernel_rfl) (by kernel_rfl)) hb ?_
  obtain ⟨b37, H38, hb⟩ : ∃ b H', NewB H36 1 [(.int .i64 0), (.int .i64 1), (.int .i64 2)] b H' := ⟨_, _, rfl, rfl⟩
  replace h := h b37 H38 hb
  refine t_bs true 1 [(.int .i64 0)] [(0, 1, .loc 0), (1, 1, .loc 1), (2, 1, .loc 2)] 3 [(.int .i64 0), (.int .i64 1), (.int .i64 2)] [(.int .i64 0), (.int .i64 1), (.int .i64 2)] b37 H38 H36 (by kernel_rfl) (fill_c (vs := [(.int .i64 0)]) (size := 1) rfl (by kernel_rfl) (by kernel_rfl) (fill_c (vs := [(.int .i64 1)]) (size := 1) rfl (by kernel_rfl) (by kernel_rfl) (fill_c (vs := [(.int .i64 2)]) (size := 1) rfl (by kernel_rfl) (by kernel_rfl) (by kernel_rfl)))) hb ?_
  refine t_call true nbatchbisect_Fails [(.int .i64 3), (.slice b35 0 1 (some 1)), (.slice b37 0 3 (some 3))] H38 (by kernel_rfl) h ?_
  clear h
  rintro _ H42 ⟨r39, r40, r41, rfl, h⟩
  obtain ⟨H44, hb⟩ : ∃ H', Dead1 H42 1 H' := ⟨_, ⟨rfl⟩⟩
  replace h := h H44 hb
  refine t_tomb true 1 (.agg [(.int .i64 0), (.int .i64 0)]) [(.int .i64 0), (.int .i64 0)] H44 H42 (by kernel_rfl) rfl hb ?_
  refine t_upd true 2 0 [(.int .i64 0), (.int .i64 0)] (.agg [(.int .i64 r40), (.int .i64 r41)]) [(.int .i64 r40), (.int .i64 r41)] [(.int .i64 r40), (.int .i64 r41)] H44 (by kernel_rfl) rfl (all_c rfl (all_c rfl all_n)) ⟨rfl, Nat.le_of_ble_eq_true (by kernel_rfl), rfl⟩ ?_
  refine t_done [(.bool false), (.int .i64 r4), (.agg [(.int .i64 r6), (.int .i64 r7)]), (.agg [(.int .i64 r18), (.int .i64 r19)]), (.agg [(.int .i64 r28), (.int .i64 r29)]), (.agg [(.int .i64 r40), (.int .i64 r41)]), (.bool r39), r5, r17, r27] H44 (by kernel_rfl) ?_
  refine then_norm ?_
  refine w_seq ?_
  refine w_run [0, 0, 0, 0, 0, 0, 0, 0, 0, 0, 0, 0, 0, 0, 0, 0, 0, 0, 0, 0, 0, 0, 0, 0, 0, 0, 0, 3, 3, 0, 0, 0, 3, 3, 0, 0, 0, 3, 3, 0, 0] ?_
  refine t_gd ((((((r4 == 2) && (r6 == 0)) && (r18 == 0)) && (r28 == 0)) && (r40 == 0)) && r39) true (by kernel_rfl) (fun hc => ?_) (fun hc => ?_)
  · replace h := h.1 ((is_and (is_and (is_and (is_and (is_and is_eq is_eq) is_eq) is_eq) is_eq) is_raw).t hc)
    obtain ⟨b45, H46, hb⟩ : ∃ b H', NewB H44 1 [(.int .i64 4), (.int .i64 2), (.int .i64 3)] b H' := ⟨_, _, rfl, rfl⟩
    replace h := h b45 H46 hb
    refine t_bs true 1 [(.int .i64 0)] [(0, 1, .loc 0), (1, 1, .loc 1), (2, 1, .loc 2)] 3 [(.int .i64 4), (.int .i64 2), (.int .i64 3)] [(.int .i64 4), (.int .i64 2), (.int .i64 3)] b45 H46 H44 (by kernel_rfl) (fill_c (vs := [(.int .i64 4)]) (size := 1) rfl (by kernel_rfl) (by kernel_rfl) (fill_c (vs := [(.int .i64 2)]) (size := 1) rfl (by kernel_rfl) (by kernel_rfl) (fill_c (vs := [(.int .i64 3)]) (size := 1) rfl (by kernel_rfl) (by kernel_rfl) (by kernel_rfl)))) hb ?_
    refine t_gd true true (by kernel_rfl) (fun _ => ?_) (fun hn => by cases hn)
    refine t_call true nFEqualInts [r5, (.slice b45 0 3 (some 3))] H46 (by kernel_rfl) h ?_
    clear h
    rintro _ H48 ⟨r47, rfl, h⟩
    refine t_gd r47 true (by kernel_rfl) (fun hc => ?_) (fun hc => ?_)
    · replace h := h.1 (is_raw.t hc)
      obtain ⟨b50, H51, hb⟩ : ∃ b H', NewB H48 1 [(.int .i64 1), (.int .i64 2)] b H' := ⟨_, _, rfl, rfl⟩
      replace h := h b50 H51 hb
      refine t_bs true 1 [(.int .i64 0)] [(0, 1, .loc 0), (1, 1, .loc 1)] 2 [(.int .i64 1), (.int .i64 2)] [(.int .i64 1), (.int .i64 2)] b50 H51 H48 (by kernel_rfl) (fill_c (vs := [(.int .i64 1)]) (size := 1) rfl (by kernel_rfl) (by kernel_rfl) (fill_c (vs := [(.int .i64 2)]) (size := 1) rfl (by kernel_rfl) (by kernel_rfl) (by kernel_rfl))) hb ?_
      refine t_gd true true (by kernel_rfl) (fun _ => ?_) (fun hn => by cases hn)
      refine t_call true nFEqualInts [r17, (.slice b50 0 2 (some 2))] H51 (by kernel_rfl) h ?_
      clear h
      rintro _ H53 ⟨r52, rfl, h⟩
      refine t_gd r52 true (by kernel_rfl) (fun hc => ?_) (fun hc => ?_)
      · replace h := h.1 (is_raw.t hc)
        obtain ⟨b55, H56, hb⟩ : ∃ b H', NewB H53 1 [(.int .i64 0), (.int .i64 2)] b H' := ⟨_, _, rfl, rfl⟩
        replace h := h b55 H56 hb
        refine t_bs true 1 [(.int .i64 0)] [(0, 1, .loc 0), (1, 1, .loc 1)] 2 [(.int .i64 0), (.int .i64 2)] [(.int .i64 0), (.int .i64 2)] b55 H56 H53 (by kernel_rfl) (fill_c (vs := [(.int .i64 0)]) (size := 1) rfl (by kernel_rfl) (by kernel_rfl) (fill_c (vs := [(.int .i64 2)]) (size := 1) rfl (by kernel_rfl) (by kernel_rfl) (by kernel_rfl))) hb ?_
        refine t_gd true true (by kernel_rfl) (fun _ => ?_) (fun hn => by cases hn)
        refine t_call true nFEqualInts [r27, (.slice b55 0 2 (some 2))] H56 (by kernel_rfl) h ?_
        clear h
        rintro _ H58 ⟨r57, rfl, h⟩
        refine t_done [(.bool r57), (.int .i64 r4), (.agg [(.int .i64 r6), (.int .i64 r7)]), (.agg [(.int .i64 r18), (.int .i64 r19)]), (.agg [(.int .i64 r28), (.int .i64 r29)]), (.agg [(.int .i64 r40), (.int .i64 r41)]), (.bool r39), r5, r17, r27] H58 (by kernel_rfl) ?_
        refine then_norm ?_
        refine w_ret ?_
        exact body_ret (vs := [(.bool r57)]) _ (by kernel_rfl) rfl h
      · replace h := h.2 (is_raw.f hc)
        refine t_gd false true (by kernel_rfl) (fun hn => by cases hn) (fun _ => ?_)
        refine t_done [(.bool false), (.int .i64 r4), (.agg [(.int .i64 r6), (.int .i64 r7)]), (.agg [(.int .i64 r18), (.int .i64 r19)]), (.agg [(.int .i64 r28), (.int .i64 r29)]), (.agg [(.int .i64 r40), (.int .i64 r41)]), (.bool r39), r5, r17, r27] H53 (by kernel_rfl) ?_
        refine then_norm ?_
        refine w_ret ?_
        exact body_ret (vs := [(.bool false)]) _ (by kernel_rfl) rfl h
    · replace h := h.2 (is_raw.f hc)
      refine t_gd false true (by kernel_rfl) (fun hn => by cases hn) (fun _ => ?_)
      refine t_gd false true (by kernel_rfl) (fun hn => by cases hn) (fun _ => ?_)
      refine t_gd false true (by kernel_rfl) (fun hn => by cases hn) (fun _ => ?_)
      refine t_done [(.bool false), (.int .i64 r4), (.agg [(.int .i64 r6), (.int .i64 r7)]), (.agg [(.int .i64 r18), (.int .i64 r19)]), (.agg [(.int .i64 r28), (.int .i64 r29)]), (.agg [(.int .i64 r40), (.int .i64 r41)]), (.bool r39), r5, r17, r27] H48 (by kernel_rfl) ?_
      refine then_norm ?_
      refine w_ret ?_
      exact body_ret (vs := [(.bool false)]) _ (by kernel_rfl) rfl h
  · replace h := h.2 ((is_and (is_and (is_and (is_and (is_and is_eq is_eq) is_eq) is_eq) is_eq) is_raw).f hc)
    refine t_gd false true (by kernel_rfl) (fun hn => by cases hn) (fun _ => ?_)
    refine t_gd false true (by kernel_rfl) (fun hn => by cases hn) (fun _ => ?_)
    refine t_gd false true (by kernel_rfl) (fun hn => by cases hn) (fun _ => ?_)
    refine t_gd false true (by kernel_rfl) (fun hn => by cases hn) (fun _ => ?_)
    refine t_gd false true (by kernel_rfl) (fun hn => by cases hn) (fun _ => ?_)
    refine t_done [(.bool false), (.int .i64 r4), (.agg [(.int .i64 r6), (.int .i64 r7)]), (.agg [(.int .i64 r18), (.int .i64 r19)]), (.agg [(.int .i64 r28), (.int .i64 r29)]), (.agg [(.int .i64 r40), (.int .i64 r41)]), (.bool r39), r5, r17, r27] H44 (by kernel_rfl) ?_
    refine then_norm ?_
    refine w_ret ?_
    exact body_ret (vs := [(.bool false)]) _ (by kernel_rfl) rfl h

end Go.RM
