import Derived.Test.YteplndpnfdmgkaaRmOpt3
/-
  Functions of the program as the abstract machine runs them, and what must be shown of a run: printed by RmPrint.
-/
namespace Go.RM
set_option linter.unusedVariables false
set_option maxRecDepth 4000
def rf_audit_Validate (naudit_inRange naudit_chain : Nat) : RFunc := ⟨1, 14, [.part 1 (some 2)],
 ((.seq (.ops [⟨.tomb 1 (.k (.agg [.int .i64 0, .int .i64 0])), none, (some 1), true⟩])
 ((.seq ((.seq (.ops [⟨.move (.var 0), none, none, true⟩, ⟨.len (.loc 0), none, none, true⟩, ⟨.bin .gtr .no (.loc 1) (.k (.int .i64 40)), none, (some 2), true⟩])
 (.cond (.var 2) ((.seq (.ops [⟨.build [.int .i64 0, .int .i64 0] [(0, 1, (.k (.int .i64 2))), (1, 1, (.k (.int .i64 (-1))))], none, none, true⟩, ⟨.upd 2 0 (.var 1) (.loc 0), none, (some 1), true⟩])
 (.ret))) (.skip))))
 ((.seq (.ops [⟨.move (.k (.int .i64 0)), none, (some 12), true⟩, ⟨.move (.k (.int .i64 0)), none, (some 10), true⟩])
 ((.seq ((.seq (.ops [⟨.move (.var 0), none, (some 6), true⟩, ⟨.len (.loc 0), none, (some 4), true⟩, ⟨.move (.k (.int .i64 0)), none, (some 3), true⟩])
 (.block 0 (.loop ((.seq (.ops [⟨.bin .lss .no (.var 3) (.var 4), none, (some 5), true⟩])
 ((.seq (.cond (.var 5) (.skip) (.exit 0))
 ((.seq (.block 1 ((.seq (.ops [⟨.move (.var 3), none, none, true⟩, ⟨.indexAddr 4 (.var 6) (.var 3), none, none, true⟩, ⟨.load (some 4) (.loc 1), none, none, true⟩, ⟨.tomb 1 (.k (.agg [.int .i64 0, .int .i64 0, .int .i64 0, .int .i64 0])), none, (some 7), true⟩, ⟨.move (.loc 0), none, (some 9), true⟩, ⟨.upd 4 0 (.loc 3) (.loc 2), none, (some 7), true⟩])
 ((.seq (.block 2 ((.seq (.ops [⟨.field 0 (some 4) (.var 7), none, none, true⟩, ⟨.callS naudit_inRange [(.loc 0)], none, none, true⟩, ⟨.un .not (.loc 1), none, none, true⟩, ⟨.move (.loc 2), none, (some 8), true⟩])
 (.cond (.var 8) ((.seq (.ops [⟨.move (.var 9), none, none, true⟩, ⟨.build [.int .i64 0, .int .i64 0] [(0, 1, (.k (.int .i64 3))), (1, 1, (.loc 0))], none, none, true⟩, ⟨.upd 2 0 (.var 1) (.loc 1), none, (some 1), true⟩])
 (.ret))) ((.seq (.ops [⟨.field 0 none (.var 7), none, none, true⟩, ⟨.field 0 none (.var 7), none, none, true⟩, ⟨.move (.var 10), none, none, true⟩, ⟨.bin .lss .no (.loc 1) (.loc 2), none, none, true⟩, ⟨.move (.loc 3), none, (some 11), true⟩])
 (.cond (.var 11) ((.seq (.ops [⟨.move (.var 9), none, none, true⟩, ⟨.build [.int .i64 0, .int .i64 0] [(0, 1, (.k (.int .i64 5))), (1, 1, (.loc 0))], none, none, true⟩, ⟨.upd 2 0 (.var 1) (.loc 1), none, (some 1), true⟩])
 (.ret))) ((.seq (.ops [⟨.field 0 none (.var 7), none, none, false⟩, ⟨.field 3 none (.var 7), none, none, false⟩, ⟨.move (.var 12), none, none, false⟩, ⟨.field 0 (some 4) (.var 7), none, none, false⟩, ⟨.callS naudit_chain [(.loc 2), (.loc 3)], none, none, false⟩, ⟨.bin .neq .no (.loc 1) (.loc 4), none, none, true⟩, ⟨.move (.loc 5), none, (some 13), true⟩])
 (.cond (.var 13) ((.seq (.ops [⟨.move (.var 9), none, none, true⟩, ⟨.build [.int .i64 0, .int .i64 0] [(0, 1, (.k (.int .i64 18))), (1, 1, (.loc 0))], none, none, true⟩, ⟨.upd 2 0 (.var 1) (.loc 1), none, (some 1), true⟩])
 (.ret))) (.skip)))))))))))
 (.ops [⟨.field 0 none (.var 7), none, none, false⟩, ⟨.field 3 none (.var 7), none, none, false⟩, ⟨.field 0 none (.var 7), none, none, false⟩, ⟨.field 0 none (.var 7), none, none, false⟩, ⟨.move (.loc 1), none, (some 12), false⟩, ⟨.move (.loc 3), none, (some 10), true⟩]))))))
 (.ops [⟨.bin .add .no (.var 3) (.k (.int .i64 1)), none, none, true⟩, ⟨.move (.loc 0), none, (some 3), true⟩])))))))))))
 ((.seq (.ops [⟨.build [.int .i64 0, .int .i64 0] [], none, none, true⟩, ⟨.upd 2 0 (.var 1) (.loc 0), none, (some 1), true⟩])
 (.ret))))))))))), none⟩
theorem v_audit_Validate {F : Nat → Option RFunc} {me naudit_inRange naudit_chain : Nat} (hF : F me = some (rf_audit_Validate naudit_inRange naudit_chain)) {fl : Nat} {H : Heap} {Q : AV → Heap → Prop} (log0 : AV)
  (h : ∀ (H1 : Heap), Dead1 H 1 H1 → ∃ len2 : Nat, lenA log0 = some len2 ∧ (((len2 : Int) > 40) → Q (.agg [(.int .i64 2), (.int .i64 (-1))]) H1) ∧ (¬((len2 : Int) > 40) → ∃ len3 : Nat, lenA log0 = some len3 ∧ ∃ (J4 : Nat → Int → Int → Int → Int → Int → Heap → Prop) (k5 : Nat), J4 k5 0 0 0 0 0 H1 ∧ (∀ (m6 : Nat) (v7 : Int) (v8 : Int) (v9 : Int) (time14 : Int) (before16 : Int) (H18 : Heap), J4 m6 v7 v8 v9 time14 before16 H18 → ((v9 < (len3 : Int)) → ∃ (e19 : Int) (e20 : Int) (e21 : Int) (e22 : Int), getA H18 4 (some 4) log0 v9 0 = some (.agg [(.int .i64 e19), (.int .i64 e20), (.int .i64 e21), (.int .i64 e22)]) ∧ ∀ (H24 : Heap), Dead1 H18 1 H24 → Ret F fl naudit_inRange [(.agg [(.int .i64 e19), (.int .i64 e20), (.int .i64 e21), (.int .i64 e22)])] H24 (fun v27 H26 => ∃ (r25 : Bool), v27 = (.bool r25) ∧ ((¬(r25 = true)) → Q (.agg [(.int .i64 3), (.int .i64 v9)]) H26) ∧ (¬(¬(r25 = true)) → ((e19 < time14) → Q (.agg [(.int .i64 5), (.int .i64 v9)]) H26) ∧ (¬(e19 < time14) → Ret F H26.length naudit_chain [(.int .i64 before16), (.agg [(.int .i64 e19), (.int .i64 e20), (.int .i64 e21), (.int .i64 e22)])] H26 (fun v30 H29 => ∃ (r28 : Int), v30 = (.int .i64 r28) ∧ ((e22 ≠ r28) → Q (.agg [(.int .i64 18), (.int .i64 v9)]) H29) ∧ (¬(e22 ≠ r28) → ∃ m31 : Nat, m31 < m6 ∧ J4 m31 v7 v8 (IntKind.wrap .i64 (v9 + 1)) e19 e22 H29)))))) ∧ (¬(v9 < (len3 : Int)) → Q (.agg [(.int .i64 0), (.int .i64 0)]) H18)))) : Ret F fl me [log0] H Q := by
  refine ret_intro hF rfl ?_
  refine w_seq ?_
  refine w_run [1] ?_
  obtain ⟨H1, hb⟩ : ∃ H', Dead1 H 1 H' := ⟨_, ⟨rfl⟩⟩
  replace h := h H1 hb
  refine t_tomb true 1 (.agg [(.int .i64 0), (.int .i64 0)]) [(.int .i64 0), (.int .i64 0)] H1 H (by kernel_rfl) rfl hb ?_
  refine t_done [log0, (.agg [(.int .i64 0), (.int .i64 0)]), .undef, .undef, .undef, .undef, .undef, .undef, .undef, .undef, .undef, .undef, .undef, .undef] H1 (by kernel_rfl) ?_
  refine then_norm ?_
  refine w_seq ?_
  refine w_seq ?_
  refine w_run [0, 1, 0] ?_
  obtain ⟨len2, hl, h⟩ := h
  refine t_len true log0 len2 H1 (by kernel_rfl) hl ?_
  refine t_done [log0, (.agg [(.int .i64 0), (.int .i64 0)]), (.bool (decide ((len2 : Int) > 40))), .undef, .undef, .undef, .undef, .undef, .undef, .undef, .undef, .undef, .undef, .undef] H1 (by kernel_rfl) ?_
  refine then_norm ?_
  refine w_cond (t := (decide ((len2 : Int) > 40))) rfl (fun hc => ?_) (fun hc => ?_)
  · replace h := h.1 (is_dec.t hc)
    refine w_seq ?_
    refine w_run [1, 1] ?_
    refine t_build true [(.int .i64 0), (.int .i64 0)] [(0, 1, .loc 0), (1, 1, .loc 1)] [(.int .i64 2), (.int .i64 (-1))] [(.int .i64 2), (.int .i64 (-1))] H1 (by kernel_rfl) (fill_c (vs := [(.int .i64 2)]) (size := 1) rfl (by kernel_rfl) (by kernel_rfl) (fill_c (vs := [(.int .i64 (-1))]) (size := 1) rfl (by kernel_rfl) (by kernel_rfl) (by kernel_rfl))) ?_
    refine t_upd true 2 0 [(.int .i64 0), (.int .i64 0)] (.agg [(.int .i64 2), (.int .i64 (-1))]) [(.int .i64 2), (.int .i64 (-1))] [(.int .i64 2), (.int .i64 (-1))] H1 (by kernel_rfl) rfl (all_c rfl (all_c rfl all_n)) ⟨rfl, Nat.le_of_ble_eq_true (by kernel_rfl), rfl⟩ ?_
    refine t_done [log0, (.agg [(.int .i64 2), (.int .i64 (-1))]), (.bool (decide ((len2 : Int) > 40))), .undef, .undef, .undef, .undef, .undef, .undef, .undef, .undef, .undef, .undef, .undef] H1 (by kernel_rfl) ?_
    refine then_norm ?_
    refine w_ret ?_
    refine then_ret ?_
    exact body_ret (vs := [(.agg [(.int .i64 2), (.int .i64 (-1))])]) _ (by kernel_rfl) rfl h
  · replace h := h.2 (is_dec.f hc)
    refine w_skip ?_
    refine then_norm ?_
    refine w_seq ?_
    refine w_run [0, 0] ?_
    refine t_done [log0, (.agg [(.int .i64 0), (.int .i64 0)]), (.bool (decide ((len2 : Int) > 40))), .undef, .undef, .undef, .undef, .undef, .undef, .undef, (.int .i64 0), .undef, (.int .i64 0), .undef] H1 (by kernel_rfl) ?_
    refine then_norm ?_
    refine w_seq ?_
    refine w_seq ?_
    refine w_run [0, 1, 0] ?_
    obtain ⟨len3, hl, h⟩ := h
    refine t_len true log0 len3 H1 (by kernel_rfl) hl ?_
    refine t_done [log0, (.agg [(.int .i64 0), (.int .i64 0)]), (.bool (decide ((len2 : Int) > 40))), (.int .i64 0), (.int .i64 (len3 : Int)), .undef, log0, .undef, .undef, .undef, (.int .i64 0), .undef, (.int .i64 0), .undef] H1 (by kernel_rfl) ?_
    refine then_norm ?_
    refine w_block ?_
    obtain ⟨J4, k5, h0, h⟩ := h
    refine w_loop (I := fun mI EI HI => ∃ (v7 : Int) (v8 : Int) (v9 : Int) (d10 : AV) (d11 : AV) (d12 : AV) (d13 : AV) (time14 : Int) (d15 : AV) (before16 : Int) (d17 : AV), EI = [log0, (.agg [(.int .i64 v7), (.int .i64 v8)]), (.bool (decide ((len2 : Int) > 40))), (.int .i64 v9), (.int .i64 (len3 : Int)), d10, log0, d11, d12, d13, (.int .i64 time14), d15, (.int .i64 before16), d17] ∧ J4 mI v7 v8 v9 time14 before16 HI) ?_ k5 ⟨_, _, _, _, _, _, _, _, _, _, _, rfl, h0⟩
    clear h0
    rintro m6 EI H18 ⟨v7, v8, v9, d10, d11, d12, d13, time14, d15, before16, d17, rfl, hJ⟩
    replace h := h m6 v7 v8 v9 time14 before16 H18 hJ
    clear hJ
    refine w_seq ?_
    refine w_run [0] ?_
    refine t_done [log0, (.agg [(.int .i64 v7), (.int .i64 v8)]), (.bool (decide ((len2 : Int) > 40))), (.int .i64 v9), (.int .i64 (len3 : Int)), (.bool (decide (v9 < (len3 : Int)))), log0, d11, d12, d13, (.int .i64 time14), d15, (.int .i64 before16), d17] H18 (by kernel_rfl) ?_
    refine then_norm ?_
    refine w_seq ?_
    refine w_cond (t := (decide (v9 < (len3 : Int)))) rfl (fun hc => ?_) (fun hc => ?_)
    · replace h := h.1 (is_dec.t hc)
      refine w_skip ?_
      refine then_norm ?_
      refine w_seq ?_
      refine w_block ?_
      refine w_seq ?_
      refine w_run [0, 1, 1, 1, 0, 1] ?_
      obtain ⟨e19, e20, e21, e22, hg23, h⟩ := h
      refine t_idxG true 4 log0 .i64 v9 H18 (by kernel_rfl) hg23 ?_
      refine t_loadG true (some 4) 4 log0 v9 0 (.agg [(.int .i64 e19), (.int .i64 e20), (.int .i64 e21), (.int .i64 e22)]) H18 (by kernel_rfl) hg23 ?_
      obtain ⟨H24, hb⟩ : ∃ H', Dead1 H18 1 H' := ⟨_, ⟨rfl⟩⟩
      replace h := h H24 hb
      refine t_tomb true 1 (.agg [(.int .i64 0), (.int .i64 0), (.int .i64 0), (.int .i64 0)]) [(.int .i64 0), (.int .i64 0), (.int .i64 0), (.int .i64 0)] H24 H18 (by kernel_rfl) rfl hb ?_
      refine t_upd true 4 0 [(.int .i64 0), (.int .i64 0), (.int .i64 0), (.int .i64 0)] (.agg [(.int .i64 e19), (.int .i64 e20), (.int .i64 e21), (.int .i64 e22)]) [(.int .i64 e19), (.int .i64 e20), (.int .i64 e21), (.int .i64 e22)] [(.int .i64 e19), (.int .i64 e20), (.int .i64 e21), (.int .i64 e22)] H24 (by kernel_rfl) rfl (all_c rfl (all_c rfl (all_c rfl (all_c rfl all_n)))) ⟨rfl, Nat.le_of_ble_eq_true (by kernel_rfl), rfl⟩ ?_
      refine t_done [log0, (.agg [(.int .i64 v7), (.int .i64 v8)]), (.bool (decide ((len2 : Int) > 40))), (.int .i64 v9), (.int .i64 (len3 : Int)), (.bool (decide (v9 < (len3 : Int)))), log0, (.agg [(.int .i64 e19), (.int .i64 e20), (.int .i64 e21), (.int .i64 e22)]), d12, (.int .i64 v9), (.int .i64 time14), d15, (.int .i64 before16), d17] H24 (by kernel_rfl) ?_
      refine then_norm ?_
      refine w_seq ?_
      refine w_block ?_
      refine w_seq ?_
      refine w_run [0, 1, 0, 0] ?_
      refine t_call true naudit_inRange [(.agg [(.int .i64 e19), (.int .i64 e20), (.int .i64 e21), (.int .i64 e22)])] H24 (by kernel_rfl) h ?_
      clear h
      rintro _ H26 ⟨r25, rfl, h⟩
      refine t_done [log0, (.agg [(.int .i64 v7), (.int .i64 v8)]), (.bool (decide ((len2 : Int) > 40))), (.int .i64 v9), (.int .i64 (len3 : Int)), (.bool (decide (v9 < (len3 : Int)))), log0, (.agg [(.int .i64 e19), (.int .i64 e20), (.int .i64 e21), (.int .i64 e22)]), (.bool (!r25)), (.int .i64 v9), (.int .i64 time14), d15, (.int .i64 before16), d17] H26 (by kernel_rfl) ?_
      refine then_norm ?_
      refine w_cond (t := (!r25)) rfl (fun hc => ?_) (fun hc => ?_)
      · replace h := h.1 ((is_not is_raw).t hc)
        refine w_seq ?_
        refine w_run [0, 1, 1] ?_
        refine t_build true [(.int .i64 0), (.int .i64 0)] [(0, 1, .loc 0), (1, 1, .loc 1)] [(.int .i64 3), (.int .i64 v9)] [(.int .i64 3), (.int .i64 v9)] H26 (by kernel_rfl) (fill_c (vs := [(.int .i64 3)]) (size := 1) rfl (by kernel_rfl) (by kernel_rfl) (fill_c (vs := [(.int .i64 v9)]) (size := 1) rfl (by kernel_rfl) (by kernel_rfl) (by kernel_rfl))) ?_
        refine t_upd true 2 0 [(.int .i64 v7), (.int .i64 v8)] (.agg [(.int .i64 3), (.int .i64 v9)]) [(.int .i64 3), (.int .i64 v9)] [(.int .i64 3), (.int .i64 v9)] H26 (by kernel_rfl) rfl (all_c rfl (all_c rfl all_n)) ⟨rfl, Nat.le_of_ble_eq_true (by kernel_rfl), rfl⟩ ?_
        refine t_done [log0, (.agg [(.int .i64 3), (.int .i64 v9)]), (.bool (decide ((len2 : Int) > 40))), (.int .i64 v9), (.int .i64 (len3 : Int)), (.bool (decide (v9 < (len3 : Int)))), log0, (.agg [(.int .i64 e19), (.int .i64 e20), (.int .i64 e21), (.int .i64 e22)]), (.bool (!r25)), (.int .i64 v9), (.int .i64 time14), d15, (.int .i64 before16), d17] H26 (by kernel_rfl) ?_
        refine then_norm ?_
        refine w_ret ?_
        refine block_ret ?_
        refine then_ret ?_
        refine block_ret ?_
        refine then_ret ?_
        refine loop_ret ?_
        refine block_ret ?_
        refine then_ret ?_
        exact body_ret (vs := [(.agg [(.int .i64 3), (.int .i64 v9)])]) _ (by kernel_rfl) rfl h
      · replace h := h.2 ((is_not is_raw).f hc)
        refine w_seq ?_
        refine w_run [0, 0, 0, 0, 0] ?_
        refine t_done [log0, (.agg [(.int .i64 v7), (.int .i64 v8)]), (.bool (decide ((len2 : Int) > 40))), (.int .i64 v9), (.int .i64 (len3 : Int)), (.bool (decide (v9 < (len3 : Int)))), log0, (.agg [(.int .i64 e19), (.int .i64 e20), (.int .i64 e21), (.int .i64 e22)]), (.bool (!r25)), (.int .i64 v9), (.int .i64 time14), (.bool (decide (e19 < time14))), (.int .i64 before16), d17] H26 (by kernel_rfl) ?_
        refine then_norm ?_
        refine w_cond (t := (decide (e19 < time14))) rfl (fun hc => ?_) (fun hc => ?_)
        · replace h := h.1 (is_dec.t hc)
          refine w_seq ?_
          refine w_run [0, 1, 1] ?_
          refine t_build true [(.int .i64 0), (.int .i64 0)] [(0, 1, .loc 0), (1, 1, .loc 1)] [(.int .i64 5), (.int .i64 v9)] [(.int .i64 5), (.int .i64 v9)] H26 (by kernel_rfl) (fill_c (vs := [(.int .i64 5)]) (size := 1) rfl (by kernel_rfl) (by kernel_rfl) (fill_c (vs := [(.int .i64 v9)]) (size := 1) rfl (by kernel_rfl) (by kernel_rfl) (by kernel_rfl))) ?_
          refine t_upd true 2 0 [(.int .i64 v7), (.int .i64 v8)] (.agg [(.int .i64 5), (.int .i64 v9)]) [(.int .i64 5), (.int .i64 v9)] [(.int .i64 5), (.int .i64 v9)] H26 (by kernel_rfl) rfl (all_c rfl (all_c rfl all_n)) ⟨rfl, Nat.le_of_ble_eq_true (by kernel_rfl), rfl⟩ ?_
          refine t_done [log0, (.agg [(.int .i64 5), (.int .i64 v9)]), (.bool (decide ((len2 : Int) > 40))), (.int .i64 v9), (.int .i64 (len3 : Int)), (.bool (decide (v9 < (len3 : Int)))), log0, (.agg [(.int .i64 e19), (.int .i64 e20), (.int .i64 e21), (.int .i64 e22)]), (.bool (!r25)), (.int .i64 v9), (.int .i64 time14), (.bool (decide (e19 < time14))), (.int .i64 before16), d17] H26 (by kernel_rfl) ?_
          refine then_norm ?_
          refine w_ret ?_
          refine block_ret ?_
          refine then_ret ?_
          refine block_ret ?_
          refine then_ret ?_
          refine loop_ret ?_
          refine block_ret ?_
          refine then_ret ?_
          exact body_ret (vs := [(.agg [(.int .i64 5), (.int .i64 v9)])]) _ (by kernel_rfl) rfl h
        · replace h := h.2 (is_dec.f hc)
          refine w_seq ?_
          refine w_run [0, 0, 0, 0, 1, 0, 0] ?_
          refine t_call false naudit_chain [(.int .i64 before16), (.agg [(.int .i64 e19), (.int .i64 e20), (.int .i64 e21), (.int .i64 e22)])] H26 (by kernel_rfl) h ?_
          clear h
          rintro _ H29 ⟨r28, rfl, h⟩
          refine t_done [log0, (.agg [(.int .i64 v7), (.int .i64 v8)]), (.bool (decide ((len2 : Int) > 40))), (.int .i64 v9), (.int .i64 (len3 : Int)), (.bool (decide (v9 < (len3 : Int)))), log0, (.agg [(.int .i64 e19), (.int .i64 e20), (.int .i64 e21), (.int .i64 e22)]), (.bool (!r25)), (.int .i64 v9), (.int .i64 time14), (.bool (decide (e19 < time14))), (.int .i64 before16), (.bool ((e22) != r28))] H29 (by kernel_rfl) ?_
          refine then_norm ?_
          refine w_cond (t := ((e22) != r28)) rfl (fun hc => ?_) (fun hc => ?_)
          · replace h := h.1 (is_ne.t hc)
            refine w_seq ?_
            refine w_run [0, 1, 1] ?_
            refine t_build true [(.int .i64 0), (.int .i64 0)] [(0, 1, .loc 0), (1, 1, .loc 1)] [(.int .i64 18), (.int .i64 v9)] [(.int .i64 18), (.int .i64 v9)] H29 (by kernel_rfl) (fill_c (vs := [(.int .i64 18)]) (size := 1) rfl (by kernel_rfl) (by kernel_rfl) (fill_c (vs := [(.int .i64 v9)]) (size := 1) rfl (by kernel_rfl) (by kernel_rfl) (by kernel_rfl))) ?_
            refine t_upd true 2 0 [(.int .i64 v7), (.int .i64 v8)] (.agg [(.int .i64 18), (.int .i64 v9)]) [(.int .i64 18), (.int .i64 v9)] [(.int .i64 18), (.int .i64 v9)] H29 (by kernel_rfl) rfl (all_c rfl (all_c rfl all_n)) ⟨rfl, Nat.le_of_ble_eq_true (by kernel_rfl), rfl⟩ ?_
            refine t_done [log0, (.agg [(.int .i64 18), (.int .i64 v9)]), (.bool (decide ((len2 : Int) > 40))), (.int .i64 v9), (.int .i64 (len3 : Int)), (.bool (decide (v9 < (len3 : Int)))), log0, (.agg [(.int .i64 e19), (.int .i64 e20), (.int .i64 e21), (.int .i64 e22)]), (.bool (!r25)), (.int .i64 v9), (.int .i64 time14), (.bool (decide (e19 < time14))), (.int .i64 before16), (.bool ((e22) != r28))] H29 (by kernel_rfl) ?_
            refine then_norm ?_
            refine w_ret ?_
            refine block_ret ?_
            refine then_ret ?_
            refine block_ret ?_
            refine then_ret ?_
            refine loop_ret ?_
            refine block_ret ?_
            refine then_ret ?_
            exact body_ret (vs := [(.agg [(.int .i64 18), (.int .i64 v9)])]) _ (by kernel_rfl) rfl h
          · replace h := h.2 (is_ne.f hc)
            refine w_skip ?_
            refine block_norm ?_
            refine then_norm ?_
            refine w_run [0, 0, 0, 0, 0, 0] ?_
            refine t_done [log0, (.agg [(.int .i64 v7), (.int .i64 v8)]), (.bool (decide ((len2 : Int) > 40))), (.int .i64 v9), (.int .i64 (len3 : Int)), (.bool (decide (v9 < (len3 : Int)))), log0, (.agg [(.int .i64 e19), (.int .i64 e20), (.int .i64 e21), (.int .i64 e22)]), (.bool (!r25)), (.int .i64 v9), (.int .i64 e19), (.bool (decide (e19 < time14))), (.int .i64 e22), (.bool ((e22) != r28))] H29 (by kernel_rfl) ?_
            refine block_norm ?_
            refine then_norm ?_
            refine w_run [0, 0] ?_
            refine t_done [log0, (.agg [(.int .i64 v7), (.int .i64 v8)]), (.bool (decide ((len2 : Int) > 40))), (.int .i64 (IntKind.wrap .i64 (v9 + 1))), (.int .i64 (len3 : Int)), (.bool (decide (v9 < (len3 : Int)))), log0, (.agg [(.int .i64 e19), (.int .i64 e20), (.int .i64 e21), (.int .i64 e22)]), (.bool (!r25)), (.int .i64 v9), (.int .i64 e19), (.bool (decide (e19 < time14))), (.int .i64 e22), (.bool ((e22) != r28))] H29 (by kernel_rfl) ?_
            obtain ⟨m', hm, h⟩ := h
            refine loop_norm ⟨m', hm, _, _, _, _, _, _, _, _, _, _, _, rfl, h⟩
    · replace h := h.2 (is_dec.f hc)
      refine w_exit ?_
      refine then_exit ?_
      refine loop_exit ?_
      refine block_exit ?_
      refine then_norm ?_
      refine w_seq ?_
      refine w_run [1, 1] ?_
      refine t_build true [(.int .i64 0), (.int .i64 0)] [] [] [(.int .i64 0), (.int .i64 0)] H18 (by kernel_rfl) (by kernel_rfl) ?_
      refine t_upd true 2 0 [(.int .i64 v7), (.int .i64 v8)] (.agg [(.int .i64 0), (.int .i64 0)]) [(.int .i64 0), (.int .i64 0)] [(.int .i64 0), (.int .i64 0)] H18 (by kernel_rfl) rfl (all_c rfl (all_c rfl all_n)) ⟨rfl, Nat.le_of_ble_eq_true (by kernel_rfl), rfl⟩ ?_
      refine t_done [log0, (.agg [(.int .i64 0), (.int .i64 0)]), (.bool (decide ((len2 : Int) > 40))), (.int .i64 v9), (.int .i64 (len3 : Int)), (.bool (decide (v9 < (len3 : Int)))), log0, d11, d12, d13, (.int .i64 time14), d15, (.int .i64 before16), d17] H18 (by kernel_rfl) ?_
      refine then_norm ?_
      refine w_ret ?_
      exact body_ret (vs := [(.agg [(.int .i64 0), (.int .i64 0)])]) _ (by kernel_rfl) rfl h

def rf_audit_inRange (nsigning_IsDigest : Nat) : RFunc := ⟨1, 3, [.var 1],
 ((.seq (.ops [⟨.tomb 1 (.var 0), none, (some 2), true⟩, ⟨.move (.k (.bool false)), none, (some 1), true⟩])
 ((.seq (.ops [⟨.field 0 none (.var 2), none, none, true⟩, ⟨.field 0 none (.var 2), none, none, true⟩, ⟨.bin .geq .no (.loc 1) (.k (.int .i64 0)), none, none, true⟩, ⟨.move (.loc 2), none, none, true⟩, ⟨.field 0 none (.var 2), none, none, true⟩, ⟨.field 0 none (.var 2), none, none, true⟩, ⟨.bin .leq .no (.loc 5) (.k (.int .i64 100000)), none, none, true⟩, ⟨.pick (.loc 3) (.loc 6) (.k (.bool false)), none, none, true⟩, ⟨.move (.loc 7), none, none, true⟩, ⟨.field 0 none (.var 2), none, none, true⟩, ⟨.field 1 none (.var 2), none, none, true⟩, ⟨.bin .geq .no (.loc 10) (.k (.int .i64 0)), none, none, true⟩, ⟨.pick (.loc 8) (.loc 11) (.k (.bool false)), none, none, true⟩, ⟨.move (.loc 12), none, none, true⟩, ⟨.field 0 none (.var 2), none, none, true⟩, ⟨.field 1 none (.var 2), none, none, true⟩, ⟨.bin .leq .no (.loc 15) (.k (.int .i64 7)), none, none, true⟩, ⟨.pick (.loc 13) (.loc 16) (.k (.bool false)), none, none, true⟩, ⟨.move (.loc 17), none, none, true⟩, ⟨.field 0 none (.var 2), none, none, true⟩, ⟨.field 2 none (.var 2), none, none, true⟩, ⟨.bin .geq .no (.loc 20) (.k (.int .i64 0)), none, none, true⟩, ⟨.pick (.loc 18) (.loc 21) (.k (.bool false)), none, none, true⟩, ⟨.move (.loc 22), none, none, true⟩, ⟨.field 0 none (.var 2), none, none, true⟩, ⟨.field 2 none (.var 2), none, none, true⟩, ⟨.bin .leq .no (.loc 25) (.k (.int .i64 1000000000)), none, none, true⟩, ⟨.pick (.loc 23) (.loc 26) (.k (.bool false)), none, none, true⟩, ⟨.move (.loc 27), none, none, true⟩, ⟨.field 0 none (.var 2), none, none, true⟩, ⟨.field 3 none (.var 2), none, none, true⟩, ⟨.callS nsigning_IsDigest [(.loc 30)], (some (28, true)), none, true⟩, ⟨.pick (.loc 28) (.loc 31) (.k (.bool false)), none, none, true⟩, ⟨.move (.loc 32), none, (some 1), true⟩])
 (.ret))))), none⟩
theorem v_audit_inRange {F : Nat → Option RFunc} {me nsigning_IsDigest : Nat} (hF : F me = some (rf_audit_inRange nsigning_IsDigest)) {fl : Nat} {H : Heap} {Q : AV → Heap → Prop} (r0 : Int) (r1 : Int) (r2 : Int) (r3 : Int)
  (h : ∀ (H4 : Heap), Dead1 H 1 H4 → ((((((((((((r0 ≥ 0) ∧ (r0 ≤ 100000))) ∧ (r1 ≥ 0))) ∧ (r1 ≤ 7))) ∧ (r2 ≥ 0))) ∧ (r2 ≤ 1000000000))) → Ret F fl nsigning_IsDigest [(.int .i64 r3)] H4 (fun v7 H6 => ∃ (r5 : Bool), v7 = (.bool r5) ∧ Q (.bool r5) H6)) ∧ (¬(((((((((((r0 ≥ 0) ∧ (r0 ≤ 100000))) ∧ (r1 ≥ 0))) ∧ (r1 ≤ 7))) ∧ (r2 ≥ 0))) ∧ (r2 ≤ 1000000000))) → Q (.bool false) H4)) : Ret F fl me [(.agg [(.int .i64 r0), (.int .i64 r1), (.int .i64 r2), (.int .i64 r3)])] H Q := by
  refine ret_intro hF rfl ?_
  refine w_seq ?_
  refine w_run [1, 0] ?_
  obtain ⟨H4, hb⟩ : ∃ H', Dead1 H 1 H' := ⟨_, ⟨rfl⟩⟩
  replace h := h H4 hb
  refine t_tomb true 1 (.agg [(.int .i64 r0), (.int .i64 r1), (.int .i64 r2), (.int .i64 r3)]) [(.int .i64 r0), (.int .i64 r1), (.int .i64 r2), (.int .i64 r3)] H4 H (by kernel_rfl) rfl hb ?_
  refine t_done [(.agg [(.int .i64 r0), (.int .i64 r1), (.int .i64 r2), (.int .i64 r3)]), (.bool false), (.agg [(.int .i64 r0), (.int .i64 r1), (.int .i64 r2), (.int .i64 r3)])] H4 (by kernel_rfl) ?_
  refine then_norm ?_
  refine w_seq ?_
  refine w_run [0, 0, 0, 0, 0, 0, 0, 0, 0, 0, 0, 0, 0, 0, 0, 0, 0, 0, 0, 0, 0, 0, 0, 0, 0, 0, 0, 0, 0, 0, 0, 3, 0, 0] ?_
  refine t_gd ((((((decide (r0 ≥ 0)) && (decide (r0 ≤ 100000))) && (decide (r1 ≥ 0))) && (decide (r1 ≤ 7))) && (decide (r2 ≥ 0))) && (decide (r2 ≤ 1000000000))) true (by kernel_rfl) (fun hc => ?_) (fun hc => ?_)
  · replace h := h.1 ((is_and (is_and (is_and (is_and (is_and is_dec is_dec) is_dec) is_dec) is_dec) is_dec).t hc)
    refine t_call true nsigning_IsDigest [(.int .i64 r3)] H4 (by kernel_rfl) h ?_
    clear h
    rintro _ H6 ⟨r5, rfl, h⟩
    refine t_done [(.agg [(.int .i64 r0), (.int .i64 r1), (.int .i64 r2), (.int .i64 r3)]), (.bool r5), (.agg [(.int .i64 r0), (.int .i64 r1), (.int .i64 r2), (.int .i64 r3)])] H6 (by kernel_rfl) ?_
    refine then_norm ?_
    refine w_ret ?_
    exact body_ret (vs := [(.bool r5)]) _ (by kernel_rfl) rfl h
  · replace h := h.2 ((is_and (is_and (is_and (is_and (is_and is_dec is_dec) is_dec) is_dec) is_dec) is_dec).f hc)
    refine t_done [(.agg [(.int .i64 r0), (.int .i64 r1), (.int .i64 r2), (.int .i64 r3)]), (.bool false), (.agg [(.int .i64 r0), (.int .i64 r1), (.int .i64 r2), (.int .i64 r3)])] H4 (by kernel_rfl) ?_
    refine then_norm ?_
    refine w_ret ?_
    exact body_ret (vs := [(.bool false)]) _ (by kernel_rfl) rfl h

def rf_signing_IsDigest : RFunc := ⟨1, 2, [.var 1],
 ((.seq (.ops [⟨.move (.k (.bool false)), none, (some 1), true⟩])
 ((.seq (.ops [⟨.move (.var 0), none, none, true⟩, ⟨.bin .geq .no (.loc 0) (.k (.int .i64 0)), none, none, true⟩, ⟨.move (.loc 1), none, none, true⟩, ⟨.move (.var 0), none, none, true⟩, ⟨.bin .lss .no (.loc 3) (.k (.int .i64 2305843009213693951)), none, none, true⟩, ⟨.pick (.loc 2) (.loc 4) (.k (.bool false)), none, none, true⟩, ⟨.move (.loc 5), none, (some 1), true⟩])
 (.ret))))), none⟩
theorem v_signing_IsDigest {F : Nat → Option RFunc} {me : Nat} (hF : F me = some (rf_signing_IsDigest )) {fl : Nat} {H : Heap} {Q : AV → Heap → Prop} (d0 : Int)
  (h : Q (.bool ((decide (d0 ≥ 0)) && (decide (d0 < 2305843009213693951)))) H) : Ret F fl me [(.int .i64 d0)] H Q := by
  refine ret_intro hF rfl ?_
  refine w_seq ?_
  refine w_run [0] ?_
  refine t_done [(.int .i64 d0), (.bool false)] H (by kernel_rfl) ?_
  refine then_norm ?_
  refine w_seq ?_
  refine w_run [0, 0, 0, 0, 0, 0, 0] ?_
  refine t_done [(.int .i64 d0), (.bool ((decide (d0 ≥ 0)) && (decide (d0 < 2305843009213693951))))] H (by kernel_rfl) ?_
  refine then_norm ?_
  refine w_ret ?_
  exact body_ret (vs := [(.bool ((decide (d0 ≥ 0)) && (decide (d0 < 2305843009213693951))))]) _ (by kernel_rfl) rfl h

def rf_audit_chain (ndigest_Pair : Nat) : RFunc := ⟨2, 5, [.var 2],
 ((.seq (.ops [⟨.tomb 1 (.var 1), none, (some 3), true⟩, ⟨.move (.k (.int .i64 0)), none, (some 2), true⟩])
 ((.seq (.ops [⟨.move (.var 0), none, none, true⟩, ⟨.field 0 none (.var 3), none, none, true⟩, ⟨.field 0 none (.var 3), none, none, true⟩, ⟨.bin .mul .no (.loc 2) (.k (.int .i64 8)), none, none, true⟩, ⟨.field 0 none (.var 3), none, none, true⟩, ⟨.field 1 none (.var 3), none, none, true⟩, ⟨.bin .add .no (.loc 3) (.loc 5), none, none, true⟩, ⟨.callS ndigest_Pair [(.loc 0), (.loc 6)], none, none, true⟩, ⟨.move (.loc 7), none, none, true⟩, ⟨.extract (.loc 8) 0, none, none, true⟩, ⟨.extract (.loc 8) 1, none, none, true⟩, ⟨.alloc 1 [.int .i64 0, .int .i64 0], none, none, true⟩, ⟨.move (.loc 9), none, (some 4), true⟩, ⟨.store 2 (.loc 11) (.loc 10) [], none, none, true⟩])
 ((.seq (.ops [⟨.move (.var 4), none, none, true⟩, ⟨.field 0 none (.var 3), none, none, true⟩, ⟨.field 2 none (.var 3), none, none, true⟩, ⟨.callS ndigest_Pair [(.loc 0), (.loc 2)], none, none, true⟩, ⟨.move (.loc 3), none, none, true⟩, ⟨.extract (.loc 4) 0, none, none, true⟩, ⟨.extract (.loc 4) 1, none, none, true⟩, ⟨.move (.loc 5), none, (some 4), true⟩])
 ((.seq (.ops [⟨.move (.var 4), none, none, true⟩, ⟨.move (.loc 0), none, (some 2), true⟩])
 (.ret))))))))), none⟩
theorem v_audit_chain {F : Nat → Option RFunc} {me ndigest_Pair : Nat} (hF : F me = some (rf_audit_chain ndigest_Pair)) {fl : Nat} {H : Heap} {Q : AV → Heap → Prop} (before0 : Int) (r1 : Int) (r2 : Int) (r3 : Int) (r4 : Int)
  (h : ∀ (H5 : Heap), Dead1 H 1 H5 → Ret F fl ndigest_Pair [(.int .i64 before0), (.int .i64 (IntKind.wrap .i64 ((IntKind.wrap .i64 (r1 * 8)) + r2)))] H5 (fun v10 H9 => ∃ (r6 : Int) (r7 : Int) (r8 : Int), v10 = (.tuple [(.int .i64 r6), (.agg [(.int .i64 r7), (.int .i64 r8)])]) ∧ ∀ (b11 : Nat) (H12 : Heap), NewB H9 1 [(.int .i64 0), (.int .i64 0)] b11 H12 → ∃ H13 : Heap, putA fl H12 b11 0 2 (.agg [(.int .i64 r7), (.int .i64 r8)]) = some H13 ∧ Ret F fl ndigest_Pair [(.int .i64 r6), (.int .i64 r3)] H13 (fun v18 H17 => ∃ (r14 : Int) (r15 : Int) (r16 : Int), v18 = (.tuple [(.int .i64 r14), (.agg [(.int .i64 r15), (.int .i64 r16)])]) ∧ Q (.int .i64 r14) H17))) : Ret F fl me [(.int .i64 before0), (.agg [(.int .i64 r1), (.int .i64 r2), (.int .i64 r3), (.int .i64 r4)])] H Q := by
  refine ret_intro hF rfl ?_
  refine w_seq ?_
  refine w_run [1, 0] ?_
  obtain ⟨H5, hb⟩ : ∃ H', Dead1 H 1 H' := ⟨_, ⟨rfl⟩⟩
  replace h := h H5 hb
  refine t_tomb true 1 (.agg [(.int .i64 r1), (.int .i64 r2), (.int .i64 r3), (.int .i64 r4)]) [(.int .i64 r1), (.int .i64 r2), (.int .i64 r3), (.int .i64 r4)] H5 H (by kernel_rfl) rfl hb ?_
  refine t_done [(.int .i64 before0), (.agg [(.int .i64 r1), (.int .i64 r2), (.int .i64 r3), (.int .i64 r4)]), (.int .i64 0), (.agg [(.int .i64 r1), (.int .i64 r2), (.int .i64 r3), (.int .i64 r4)]), .undef] H5 (by kernel_rfl) ?_
  refine then_norm ?_
  refine w_seq ?_
  refine w_run [0, 0, 0, 0, 0, 0, 0, 1, 0, 0, 0, 1, 0, 1] ?_
  refine t_call true ndigest_Pair [(.int .i64 before0), (.int .i64 (IntKind.wrap .i64 ((IntKind.wrap .i64 (r1 * 8)) + r2)))] H5 (by kernel_rfl) h ?_
  clear h
  rintro _ H9 ⟨r6, r7, r8, rfl, h⟩
  obtain ⟨b11, H12, hb⟩ : ∃ b H', NewB H9 1 [(.int .i64 0), (.int .i64 0)] b H' := ⟨_, _, rfl, rfl⟩
  replace h := h b11 H12 hb
  refine t_alloc true 1 [(.int .i64 0), (.int .i64 0)] b11 H12 H9 (by kernel_rfl) hb ?_
  obtain ⟨H13, hp, h⟩ := h
  refine t_store true 2 b11 0 (.agg [(.int .i64 r7), (.int .i64 r8)]) H13 H12 (by kernel_rfl) hp ?_
  refine t_done [(.int .i64 before0), (.agg [(.int .i64 r1), (.int .i64 r2), (.int .i64 r3), (.int .i64 r4)]), (.int .i64 0), (.agg [(.int .i64 r1), (.int .i64 r2), (.int .i64 r3), (.int .i64 r4)]), (.int .i64 r6)] H13 (by kernel_rfl) ?_
  refine then_norm ?_
  refine w_seq ?_
  refine w_run [0, 0, 0, 1, 0, 0, 0, 0] ?_
  refine t_call true ndigest_Pair [(.int .i64 r6), (.int .i64 r3)] H13 (by kernel_rfl) h ?_
  clear h
  rintro _ H17 ⟨r14, r15, r16, rfl, h⟩
  refine t_done [(.int .i64 before0), (.agg [(.int .i64 r1), (.int .i64 r2), (.int .i64 r3), (.int .i64 r4)]), (.int .i64 0), (.agg [(.int .i64 r1), (.int .i64 r2), (.int .i64 r3), (.int .i64 r4)]), (.int .i64 r14)] H17 (by kernel_rfl) ?_
  refine then_norm ?_
  refine w_seq ?_
  refine w_run [0, 0] ?_
  refine t_done [(.int .i64 before0), (.agg [(.int .i64 r1), (.int .i64 r2), (.int .i64 r3), (.int .i64 r4)]), (.int .i64 r14), (.agg [(.int .i64 r1), (.int .i64 r2), (.int .i64 r3), (.int .i64 r4)]), (.int .i64 r14)] H17 (by kernel_rfl) ?_
  refine then_norm ?_
  refine w_ret ?_
  exact body_ret (vs := [(.int .i64 r14)]) _ (by kernel_rfl) rfl h

def rf_audit_Append (naudit_Validate naudit_inRange naudit_chain nslices_Clone__api_Record_api_Record : Nat) : RFunc := ⟨4, 14, [.var 4, .part 5 (some 2)],
 ((.seq (.ops [⟨.move (.k (.empty)), none, (some 4), true⟩, ⟨.tomb 1 (.k (.agg [.int .i64 0, .int .i64 0])), none, (some 5), true⟩])
 ((.seq ((.seq (.ops [⟨.move (.var 0), none, none, true⟩, ⟨.callS naudit_Validate [(.loc 0)], none, none, true⟩, ⟨.tomb 1 (.k (.agg [.int .i64 0, .int .i64 0])), none, (some 6), true⟩, ⟨.upd 2 0 (.loc 2) (.loc 1), none, (some 6), true⟩])
 ((.seq (.ops [⟨.field 0 (some 2) (.var 6), none, none, true⟩, ⟨.build [.int .i64 0, .int .i64 0] [], none, none, true⟩, ⟨.bin .neq (.agg [.int, .int]) (.loc 0) (.loc 1), none, (some 7), true⟩])
 (.cond (.var 7) ((.seq (.ops [⟨.field 0 (some 2) (.var 6), none, none, true⟩, ⟨.move (.k (.empty)), none, (some 4), false⟩, ⟨.upd 2 0 (.var 5) (.loc 0), none, (some 5), true⟩])
 (.ret))) (.skip))))))
 ((.seq (.ops [⟨.move (.var 1), none, none, true⟩, ⟨.move (.var 2), none, none, true⟩, ⟨.move (.var 3), none, none, true⟩, ⟨.build [.int .i64 0, .int .i64 0, .int .i64 0, .int .i64 0] [(0, 1, (.loc 0)), (1, 1, (.loc 1)), (2, 1, (.loc 2))], none, none, true⟩, ⟨.tomb 1 (.k (.agg [.int .i64 0, .int .i64 0, .int .i64 0, .int .i64 0])), none, (some 10), true⟩, ⟨.upd 4 0 (.loc 4) (.loc 3), none, (some 10), true⟩])
 ((.seq (.ops [⟨.tomb 1 (.k (.agg [.int .i64 0, .int .i64 0, .int .i64 0, .int .i64 0])), none, (some 9), true⟩])
 ((.seq ((.seq (.ops [⟨.move (.var 0), none, none, true⟩, ⟨.len (.loc 0), none, none, true⟩, ⟨.bin .gtr .no (.loc 1) (.k (.int .i64 0)), none, (some 8), true⟩])
 (.cond (.var 8) (.ops [⟨.move (.var 0), none, none, true⟩, ⟨.move (.var 0), none, none, true⟩, ⟨.len (.loc 1), none, none, true⟩, ⟨.bin .sub .no (.loc 2) (.k (.int .i64 1)), none, none, true⟩, ⟨.indexAddr 4 (.loc 0) (.loc 3), none, none, true⟩, ⟨.load (some 4) (.loc 4), none, none, true⟩, ⟨.upd 4 0 (.var 9) (.loc 5), none, (some 9), true⟩]) (.skip))))
 ((.seq (.block 0 ((.seq (.ops [⟨.field 0 (some 4) (.var 10), none, none, true⟩, ⟨.callS naudit_inRange [(.loc 0)], none, none, true⟩, ⟨.un .not (.loc 1), none, none, true⟩, ⟨.move (.loc 2), none, (some 11), true⟩])
 (.cond (.var 11) ((.seq (.ops [⟨.build [.int .i64 0, .int .i64 0] [(0, 1, (.k (.int .i64 3))), (1, 1, (.k (.int .i64 (-2))))], none, none, true⟩, ⟨.move (.k (.empty)), none, (some 4), true⟩, ⟨.upd 2 0 (.var 5) (.loc 0), none, (some 5), true⟩])
 (.ret))) ((.seq (.ops [⟨.move (.var 1), none, none, true⟩, ⟨.field 0 none (.var 9), none, none, true⟩, ⟨.field 0 none (.var 9), none, none, true⟩, ⟨.bin .lss .no (.loc 0) (.loc 2), none, none, true⟩, ⟨.move (.loc 3), none, (some 12), true⟩])
 (.cond (.var 12) ((.seq (.ops [⟨.build [.int .i64 0, .int .i64 0] [(0, 1, (.k (.int .i64 16))), (1, 1, (.k (.int .i64 (-2))))], none, none, true⟩, ⟨.move (.k (.empty)), none, (some 4), true⟩, ⟨.upd 2 0 (.var 5) (.loc 0), none, (some 5), true⟩])
 (.ret))) ((.seq (.ops [⟨.move (.var 0), none, none, true⟩, ⟨.len (.loc 0), none, none, true⟩, ⟨.bin .eql .no (.loc 1) (.k (.int .i64 40)), none, none, true⟩, ⟨.move (.loc 2), none, (some 13), true⟩])
 (.cond (.var 13) ((.seq (.ops [⟨.build [.int .i64 0, .int .i64 0] [(0, 1, (.k (.int .i64 14))), (1, 1, (.k (.int .i64 (-2))))], none, none, true⟩, ⟨.move (.k (.empty)), none, (some 4), true⟩, ⟨.upd 2 0 (.var 5) (.loc 0), none, (some 5), true⟩])
 (.ret))) (.skip)))))))))))
 ((.seq (.ops [⟨.field 0 none (.var 9), none, none, true⟩, ⟨.field 3 none (.var 9), none, none, true⟩, ⟨.field 0 (some 4) (.var 10), none, none, true⟩, ⟨.callS naudit_chain [(.loc 1), (.loc 2)], none, none, true⟩, ⟨.field 0 none (.var 10), none, none, true⟩, ⟨.upd 1 3 (.var 10) (.loc 3), none, (some 10), true⟩])
 ((.seq (.ops [⟨.move (.var 0), none, none, false⟩, ⟨.callS nslices_Clone__api_Record_api_Record [(.loc 0)], none, none, false⟩, ⟨.field 0 (some 4) (.var 10), none, none, false⟩, ⟨.buildSlice 4 [.int .i64 0, .int .i64 0, .int .i64 0, .int .i64 0] [(0, 4, (.loc 2))] 1, none, none, false⟩, ⟨.append 4 32 (.loc 1) (.loc 3), none, none, true⟩, ⟨.build [.int .i64 0, .int .i64 0] [], none, none, false⟩, ⟨.move (.loc 4), none, (some 4), true⟩, ⟨.upd 2 0 (.var 5) (.loc 5), none, (some 5), true⟩])
 (.ret))))))))))))))))), none⟩
theorem v_audit_Append {F : Nat → Option RFunc} {me naudit_Validate naudit_inRange naudit_chain nslices_Clone__api_Record_api_Record : Nat} (hF : F me = some (rf_audit_Append naudit_Validate naudit_inRange naudit_chain nslices_Clone__api_Record_api_Record)) {fl : Nat} {H : Heap} {Q : AV → Heap → Prop} (log0 : AV) (time1 : Int) (user2 : Int) (action3 : Int)
  (h : ∀ (H4 : Heap), Dead1 H 1 H4 → Ret F fl naudit_Validate [log0] H4 (fun v8 H7 => ∃ (r5 : Int) (r6 : Int), v8 = (.agg [(.int .i64 r5), (.int .i64 r6)]) ∧ ∀ (H9 : Heap), Dead1 H7 1 H9 → ((¬(((r5 = 0) ∧ (((r6 = 0) ∧ (True)))))) → Q (.tuple [.empty, (.agg [(.int .i64 r5), (.int .i64 r6)])]) H9) ∧ (¬(¬(((r5 = 0) ∧ (((r6 = 0) ∧ (True)))))) → ∀ (H10 : Heap), Dead1 H9 1 H10 → ∀ (H11 : Heap), Dead1 H10 1 H11 → ∃ (R12 : Int → Int → Int → Int → Prop), (∃ len18 : Nat, lenA log0 = some len18 ∧ (((len18 : Int) > 0) → ∃ len19 : Nat, lenA log0 = some len19 ∧ ∃ (e20 : Int) (e21 : Int) (e22 : Int) (e23 : Int), getA H11 4 (some 4) log0 (IntKind.wrap .i64 ((len19 : Int) - 1)) 0 = some (.agg [(.int .i64 e20), (.int .i64 e21), (.int .i64 e22), (.int .i64 e23)]) ∧ R12 e20 e21 e22 e23) ∧ (¬((len18 : Int) > 0) → R12 0 0 0 0)) ∧ (∀ (last14 : Int) (last15 : Int) (last16 : Int) (last17 : Int), R12 last14 last15 last16 last17 → Ret F fl naudit_inRange [(.agg [(.int .i64 time1), (.int .i64 user2), (.int .i64 action3), (.int .i64 0)])] H11 (fun v27 H26 => ∃ (r25 : Bool), v27 = (.bool r25) ∧ ((¬(r25 = true)) → Q (.tuple [.empty, (.agg [(.int .i64 3), (.int .i64 (-2))])]) H26) ∧ (¬(¬(r25 = true)) → ((time1 < last14) → Q (.tuple [.empty, (.agg [(.int .i64 16), (.int .i64 (-2))])]) H26) ∧ (¬(time1 < last14) → ∃ len28 : Nat, lenA log0 = some len28 ∧ (((len28 : Int) = 40) → Q (.tuple [.empty, (.agg [(.int .i64 14), (.int .i64 (-2))])]) H26) ∧ (¬((len28 : Int) = 40) → Ret F fl naudit_chain [(.int .i64 last17), (.agg [(.int .i64 time1), (.int .i64 user2), (.int .i64 action3), (.int .i64 0)])] H26 (fun v31 H30 => ∃ (r29 : Int), v31 = (.int .i64 r29) ∧ Ret F H30.length nslices_Clone__api_Record_api_Record [log0] H30 (fun r32 H33 => ∀ (b35 : Nat) (H36 : Heap), NewB H33 4 [(.int .i64 time1), (.int .i64 user2), (.int .i64 action3), (.int .i64 r29)] b35 H36 → ∃ (a37 : AV) (H38 : Heap), appA fl true 4 32 H36 r32 (.slice b35 0 1 (some 1)) = some (a37, H38) ∧ Q (.tuple [a37, (.agg [(.int .i64 0), (.int .i64 0)])]) H38)))))))))) : Ret F fl me [log0, (.int .i64 time1), (.int .i64 user2), (.int .i64 action3)] H Q := by
  refine ret_intro hF rfl ?_
  refine w_seq ?_
  refine w_run [0, 1] ?_
  obtain ⟨H4, hb⟩ : ∃ H', Dead1 H 1 H' := ⟨_, ⟨rfl⟩⟩
  replace h := h H4 hb
  refine t_tomb true 1 (.agg [(.int .i64 0), (.int .i64 0)]) [(.int .i64 0), (.int .i64 0)] H4 H (by kernel_rfl) rfl hb ?_
  refine t_done [log0, (.int .i64 time1), (.int .i64 user2), (.int .i64 action3), .empty, (.agg [(.int .i64 0), (.int .i64 0)]), .undef, .undef, .undef, .undef, .undef, .undef, .undef, .undef] H4 (by kernel_rfl) ?_
  refine then_norm ?_
  refine w_seq ?_
  refine w_seq ?_
  refine w_run [0, 1, 1, 1] ?_
  refine t_call true naudit_Validate [log0] H4 (by kernel_rfl) h ?_
  clear h
  rintro _ H7 ⟨r5, r6, rfl, h⟩
  obtain ⟨H9, hb⟩ : ∃ H', Dead1 H7 1 H' := ⟨_, ⟨rfl⟩⟩
  replace h := h H9 hb
  refine t_tomb true 1 (.agg [(.int .i64 0), (.int .i64 0)]) [(.int .i64 0), (.int .i64 0)] H9 H7 (by kernel_rfl) rfl hb ?_
  refine t_upd true 2 0 [(.int .i64 0), (.int .i64 0)] (.agg [(.int .i64 r5), (.int .i64 r6)]) [(.int .i64 r5), (.int .i64 r6)] [(.int .i64 r5), (.int .i64 r6)] H9 (by kernel_rfl) rfl (all_c rfl (all_c rfl all_n)) ⟨rfl, Nat.le_of_ble_eq_true (by kernel_rfl), rfl⟩ ?_
  refine t_done [log0, (.int .i64 time1), (.int .i64 user2), (.int .i64 action3), .empty, (.agg [(.int .i64 0), (.int .i64 0)]), (.agg [(.int .i64 r5), (.int .i64 r6)]), .undef, .undef, .undef, .undef, .undef, .undef, .undef] H9 (by kernel_rfl) ?_
  refine then_norm ?_
  refine w_seq ?_
  refine w_run [0, 1, 0] ?_
  refine t_build true [(.int .i64 0), (.int .i64 0)] [] [] [(.int .i64 0), (.int .i64 0)] H9 (by kernel_rfl) (by kernel_rfl) ?_
  refine t_done [log0, (.int .i64 time1), (.int .i64 user2), (.int .i64 action3), .empty, (.agg [(.int .i64 0), (.int .i64 0)]), (.agg [(.int .i64 r5), (.int .i64 r6)]), (.bool (!(((r5) == 0) && (((r6) == 0) && true)))), .undef, .undef, .undef, .undef, .undef, .undef] H9 (by kernel_rfl) ?_
  refine then_norm ?_
  refine w_cond (t := (!(((r5) == 0) && (((r6) == 0) && true)))) rfl (fun hc => ?_) (fun hc => ?_)
  · replace h := h.1 ((is_not (is_and is_eq (is_and is_eq is_true))).t hc)
    refine w_seq ?_
    refine w_run [0, 0, 1] ?_
    refine t_upd true 2 0 [(.int .i64 0), (.int .i64 0)] (.agg [(.int .i64 r5), (.int .i64 r6)]) [(.int .i64 r5), (.int .i64 r6)] [(.int .i64 r5), (.int .i64 r6)] H9 (by kernel_rfl) rfl (all_c rfl (all_c rfl all_n)) ⟨rfl, Nat.le_of_ble_eq_true (by kernel_rfl), rfl⟩ ?_
    refine t_done [log0, (.int .i64 time1), (.int .i64 user2), (.int .i64 action3), .empty, (.agg [(.int .i64 r5), (.int .i64 r6)]), (.agg [(.int .i64 r5), (.int .i64 r6)]), (.bool (!(((r5) == 0) && (((r6) == 0) && true)))), .undef, .undef, .undef, .undef, .undef, .undef] H9 (by kernel_rfl) ?_
    refine then_norm ?_
    refine w_ret ?_
    refine then_ret ?_
    exact body_ret (vs := [.empty, (.agg [(.int .i64 r5), (.int .i64 r6)])]) _ (by kernel_rfl) rfl h
  · replace h := h.2 ((is_not (is_and is_eq (is_and is_eq is_true))).f hc)
    refine w_skip ?_
    refine then_norm ?_
    refine w_seq ?_
    refine w_run [0, 0, 0, 1, 1, 1] ?_
    refine t_build true [(.int .i64 0), (.int .i64 0), (.int .i64 0), (.int .i64 0)] [(0, 1, .loc 0), (1, 1, .loc 1), (2, 1, .loc 2)] [(.int .i64 time1), (.int .i64 user2), (.int .i64 action3)] [(.int .i64 time1), (.int .i64 user2), (.int .i64 action3), (.int .i64 0)] H9 (by kernel_rfl) (fill_c (vs := [(.int .i64 time1)]) (size := 1) rfl (by kernel_rfl) (by kernel_rfl) (fill_c (vs := [(.int .i64 user2)]) (size := 1) rfl (by kernel_rfl) (by kernel_rfl) (fill_c (vs := [(.int .i64 action3)]) (size := 1) rfl (by kernel_rfl) (by kernel_rfl) (by kernel_rfl)))) ?_
    obtain ⟨H10, hb⟩ : ∃ H', Dead1 H9 1 H' := ⟨_, ⟨rfl⟩⟩
    replace h := h H10 hb
    refine t_tomb true 1 (.agg [(.int .i64 0), (.int .i64 0), (.int .i64 0), (.int .i64 0)]) [(.int .i64 0), (.int .i64 0), (.int .i64 0), (.int .i64 0)] H10 H9 (by kernel_rfl) rfl hb ?_
    refine t_upd true 4 0 [(.int .i64 0), (.int .i64 0), (.int .i64 0), (.int .i64 0)] (.agg [(.int .i64 time1), (.int .i64 user2), (.int .i64 action3), (.int .i64 0)]) [(.int .i64 time1), (.int .i64 user2), (.int .i64 action3), (.int .i64 0)] [(.int .i64 time1), (.int .i64 user2), (.int .i64 action3), (.int .i64 0)] H10 (by kernel_rfl) rfl (all_c rfl (all_c rfl (all_c rfl (all_c rfl all_n)))) ⟨rfl, Nat.le_of_ble_eq_true (by kernel_rfl), rfl⟩ ?_
    refine t_done [log0, (.int .i64 time1), (.int .i64 user2), (.int .i64 action3), .empty, (.agg [(.int .i64 0), (.int .i64 0)]), (.agg [(.int .i64 r5), (.int .i64 r6)]), (.bool (!(((r5) == 0) && (((r6) == 0) && true)))), .undef, .undef, (.agg [(.int .i64 time1), (.int .i64 user2), (.int .i64 action3), (.int .i64 0)]), .undef, .undef, .undef] H10 (by kernel_rfl) ?_
    refine then_norm ?_
    refine w_seq ?_
    refine w_run [1] ?_
    obtain ⟨H11, hb⟩ : ∃ H', Dead1 H10 1 H' := ⟨_, ⟨rfl⟩⟩
    replace h := h H11 hb
    refine t_tomb true 1 (.agg [(.int .i64 0), (.int .i64 0), (.int .i64 0), (.int .i64 0)]) [(.int .i64 0), (.int .i64 0), (.int .i64 0), (.int .i64 0)] H11 H10 (by kernel_rfl) rfl hb ?_
    refine t_done [log0, (.int .i64 time1), (.int .i64 user2), (.int .i64 action3), .empty, (.agg [(.int .i64 0), (.int .i64 0)]), (.agg [(.int .i64 r5), (.int .i64 r6)]), (.bool (!(((r5) == 0) && (((r6) == 0) && true)))), .undef, (.agg [(.int .i64 0), (.int .i64 0), (.int .i64 0), (.int .i64 0)]), (.agg [(.int .i64 time1), (.int .i64 user2), (.int .i64 action3), (.int .i64 0)]), .undef, .undef, .undef] H11 (by kernel_rfl) ?_
    refine then_norm ?_
    refine w_seq ?_
    obtain ⟨R12, h, hK⟩ := h
    refine w_join (fun EI HI => ∃ (d13 : AV) (last14 : Int) (last15 : Int) (last16 : Int) (last17 : Int), EI = [log0, (.int .i64 time1), (.int .i64 user2), (.int .i64 action3), .empty, (.agg [(.int .i64 0), (.int .i64 0)]), (.agg [(.int .i64 r5), (.int .i64 r6)]), (.bool (!(((r5) == 0) && (((r6) == 0) && true)))), d13, (.agg [(.int .i64 last14), (.int .i64 last15), (.int .i64 last16), (.int .i64 last17)]), (.agg [(.int .i64 time1), (.int .i64 user2), (.int .i64 action3), (.int .i64 0)]), .undef, .undef, .undef] ∧ H11 = HI ∧ R12 last14 last15 last16 last17) ?_ ?_
    · clear hK
      refine w_seq ?_
      refine w_run [0, 1, 0] ?_
      obtain ⟨len18, hl, h⟩ := h
      refine t_len true log0 len18 H11 (by kernel_rfl) hl ?_
      refine t_done [log0, (.int .i64 time1), (.int .i64 user2), (.int .i64 action3), .empty, (.agg [(.int .i64 0), (.int .i64 0)]), (.agg [(.int .i64 r5), (.int .i64 r6)]), (.bool (!(((r5) == 0) && (((r6) == 0) && true)))), (.bool (decide ((len18 : Int) > 0))), (.agg [(.int .i64 0), (.int .i64 0), (.int .i64 0), (.int .i64 0)]), (.agg [(.int .i64 time1), (.int .i64 user2), (.int .i64 action3), (.int .i64 0)]), .undef, .undef, .undef] H11 (by kernel_rfl) ?_
      refine then_norm ?_
      refine w_cond (t := (decide ((len18 : Int) > 0))) rfl (fun hc => ?_) (fun hc => ?_)
      · replace h := h.1 (is_dec.t hc)
        refine w_run [0, 0, 1, 0, 1, 1, 1] ?_
        obtain ⟨len19, hl, h⟩ := h
        refine t_len true log0 len19 H11 (by kernel_rfl) hl ?_
        obtain ⟨e20, e21, e22, e23, hg24, h⟩ := h
        refine t_idxG true 4 log0 .i64 (IntKind.wrap .i64 ((len19 : Int) - 1)) H11 (by kernel_rfl) hg24 ?_
        refine t_loadG true (some 4) 4 log0 (IntKind.wrap .i64 ((len19 : Int) - 1)) 0 (.agg [(.int .i64 e20), (.int .i64 e21), (.int .i64 e22), (.int .i64 e23)]) H11 (by kernel_rfl) hg24 ?_
        refine t_upd true 4 0 [(.int .i64 0), (.int .i64 0), (.int .i64 0), (.int .i64 0)] (.agg [(.int .i64 e20), (.int .i64 e21), (.int .i64 e22), (.int .i64 e23)]) [(.int .i64 e20), (.int .i64 e21), (.int .i64 e22), (.int .i64 e23)] [(.int .i64 e20), (.int .i64 e21), (.int .i64 e22), (.int .i64 e23)] H11 (by kernel_rfl) rfl (all_c rfl (all_c rfl (all_c rfl (all_c rfl all_n)))) ⟨rfl, Nat.le_of_ble_eq_true (by kernel_rfl), rfl⟩ ?_
        refine t_done [log0, (.int .i64 time1), (.int .i64 user2), (.int .i64 action3), .empty, (.agg [(.int .i64 0), (.int .i64 0)]), (.agg [(.int .i64 r5), (.int .i64 r6)]), (.bool (!(((r5) == 0) && (((r6) == 0) && true)))), (.bool (decide ((len18 : Int) > 0))), (.agg [(.int .i64 e20), (.int .i64 e21), (.int .i64 e22), (.int .i64 e23)]), (.agg [(.int .i64 time1), (.int .i64 user2), (.int .i64 action3), (.int .i64 0)]), .undef, .undef, .undef] H11 (by kernel_rfl) ?_
        refine join_norm ⟨_, _, _, _, _, rfl, rfl, h⟩
      · replace h := h.2 (is_dec.f hc)
        refine w_skip ?_
        refine join_norm ⟨_, _, _, _, _, rfl, rfl, h⟩
    · clear h
      rintro EI HI ⟨d13, last14, last15, last16, last17, rfl, rfl, hJ⟩
      have h := hK last14 last15 last16 last17 hJ
      clear hJ hK
      refine then_norm ?_
      refine w_seq ?_
      refine w_block ?_
      refine w_seq ?_
      refine w_run [0, 1, 0, 0] ?_
      refine t_call true naudit_inRange [(.agg [(.int .i64 time1), (.int .i64 user2), (.int .i64 action3), (.int .i64 0)])] H11 (by kernel_rfl) h ?_
      clear h
      rintro _ H26 ⟨r25, rfl, h⟩
      refine t_done [log0, (.int .i64 time1), (.int .i64 user2), (.int .i64 action3), .empty, (.agg [(.int .i64 0), (.int .i64 0)]), (.agg [(.int .i64 r5), (.int .i64 r6)]), (.bool (!(((r5) == 0) && (((r6) == 0) && true)))), d13, (.agg [(.int .i64 last14), (.int .i64 last15), (.int .i64 last16), (.int .i64 last17)]), (.agg [(.int .i64 time1), (.int .i64 user2), (.int .i64 action3), (.int .i64 0)]), (.bool (!r25)), .undef, .undef] H26 (by kernel_rfl) ?_
      refine then_norm ?_
      refine w_cond (t := (!r25)) rfl (fun hc => ?_) (fun hc => ?_)
      · replace h := h.1 ((is_not is_raw).t hc)
        refine w_seq ?_
        refine w_run [1, 0, 1] ?_
        refine t_build true [(.int .i64 0), (.int .i64 0)] [(0, 1, .loc 0), (1, 1, .loc 1)] [(.int .i64 3), (.int .i64 (-2))] [(.int .i64 3), (.int .i64 (-2))] H26 (by kernel_rfl) (fill_c (vs := [(.int .i64 3)]) (size := 1) rfl (by kernel_rfl) (by kernel_rfl) (fill_c (vs := [(.int .i64 (-2))]) (size := 1) rfl (by kernel_rfl) (by kernel_rfl) (by kernel_rfl))) ?_
        refine t_upd true 2 0 [(.int .i64 0), (.int .i64 0)] (.agg [(.int .i64 3), (.int .i64 (-2))]) [(.int .i64 3), (.int .i64 (-2))] [(.int .i64 3), (.int .i64 (-2))] H26 (by kernel_rfl) rfl (all_c rfl (all_c rfl all_n)) ⟨rfl, Nat.le_of_ble_eq_true (by kernel_rfl), rfl⟩ ?_
        refine t_done [log0, (.int .i64 time1), (.int .i64 user2), (.int .i64 action3), .empty, (.agg [(.int .i64 3), (.int .i64 (-2))]), (.agg [(.int .i64 r5), (.int .i64 r6)]), (.bool (!(((r5) == 0) && (((r6) == 0) && true)))), d13, (.agg [(.int .i64 last14), (.int .i64 last15), (.int .i64 last16), (.int .i64 last17)]), (.agg [(.int .i64 time1), (.int .i64 user2), (.int .i64 action3), (.int .i64 0)]), (.bool (!r25)), .undef, .undef] H26 (by kernel_rfl) ?_
        refine then_norm ?_
        refine w_ret ?_
        refine block_ret ?_
        refine then_ret ?_
        exact body_ret (vs := [.empty, (.agg [(.int .i64 3), (.int .i64 (-2))])]) _ (by kernel_rfl) rfl h
      · replace h := h.2 ((is_not is_raw).f hc)
        refine w_seq ?_
        refine w_run [0, 0, 0, 0, 0] ?_
        refine t_done [log0, (.int .i64 time1), (.int .i64 user2), (.int .i64 action3), .empty, (.agg [(.int .i64 0), (.int .i64 0)]), (.agg [(.int .i64 r5), (.int .i64 r6)]), (.bool (!(((r5) == 0) && (((r6) == 0) && true)))), d13, (.agg [(.int .i64 last14), (.int .i64 last15), (.int .i64 last16), (.int .i64 last17)]), (.agg [(.int .i64 time1), (.int .i64 user2), (.int .i64 action3), (.int .i64 0)]), (.bool (!r25)), (.bool (decide (time1 < last14))), .undef] H26 (by kernel_rfl) ?_
        refine then_norm ?_
        refine w_cond (t := (decide (time1 < last14))) rfl (fun hc => ?_) (fun hc => ?_)
        · replace h := h.1 (is_dec.t hc)
          refine w_seq ?_
          refine w_run [1, 0, 1] ?_
          refine t_build true [(.int .i64 0), (.int .i64 0)] [(0, 1, .loc 0), (1, 1, .loc 1)] [(.int .i64 16), (.int .i64 (-2))] [(.int .i64 16), (.int .i64 (-2))] H26 (by kernel_rfl) (fill_c (vs := [(.int .i64 16)]) (size := 1) rfl (by kernel_rfl) (by kernel_rfl) (fill_c (vs := [(.int .i64 (-2))]) (size := 1) rfl (by kernel_rfl) (by kernel_rfl) (by kernel_rfl))) ?_
          refine t_upd true 2 0 [(.int .i64 0), (.int .i64 0)] (.agg [(.int .i64 16), (.int .i64 (-2))]) [(.int .i64 16), (.int .i64 (-2))] [(.int .i64 16), (.int .i64 (-2))] H26 (by kernel_rfl) rfl (all_c rfl (all_c rfl all_n)) ⟨rfl, Nat.le_of_ble_eq_true (by kernel_rfl), rfl⟩ ?_
          refine t_done [log0, (.int .i64 time1), (.int .i64 user2), (.int .i64 action3), .empty, (.agg [(.int .i64 16), (.int .i64 (-2))]), (.agg [(.int .i64 r5), (.int .i64 r6)]), (.bool (!(((r5) == 0) && (((r6) == 0) && true)))), d13, (.agg [(.int .i64 last14), (.int .i64 last15), (.int .i64 last16), (.int .i64 last17)]), (.agg [(.int .i64 time1), (.int .i64 user2), (.int .i64 action3), (.int .i64 0)]), (.bool (!r25)), (.bool (decide (time1 < last14))), .undef] H26 (by kernel_rfl) ?_
          refine then_norm ?_
          refine w_ret ?_
          refine block_ret ?_
          refine then_ret ?_
          exact body_ret (vs := [.empty, (.agg [(.int .i64 16), (.int .i64 (-2))])]) _ (by kernel_rfl) rfl h
        · replace h := h.2 (is_dec.f hc)
          refine w_seq ?_
          refine w_run [0, 1, 0, 0] ?_
          obtain ⟨len28, hl, h⟩ := h
          refine t_len true log0 len28 H26 (by kernel_rfl) hl ?_
          refine t_done [log0, (.int .i64 time1), (.int .i64 user2), (.int .i64 action3), .empty, (.agg [(.int .i64 0), (.int .i64 0)]), (.agg [(.int .i64 r5), (.int .i64 r6)]), (.bool (!(((r5) == 0) && (((r6) == 0) && true)))), d13, (.agg [(.int .i64 last14), (.int .i64 last15), (.int .i64 last16), (.int .i64 last17)]), (.agg [(.int .i64 time1), (.int .i64 user2), (.int .i64 action3), (.int .i64 0)]), (.bool (!r25)), (.bool (decide (time1 < last14))), (.bool (((len28 : Int)) == 40))] H26 (by kernel_rfl) ?_
          refine then_norm ?_
          refine w_cond (t := (((len28 : Int)) == 40)) rfl (fun hc => ?_) (fun hc => ?_)
          · replace h := h.1 (is_eq.t hc)
            refine w_seq ?_
            refine w_run [1, 0, 1] ?_
            refine t_build true [(.int .i64 0), (.int .i64 0)] [(0, 1, .loc 0), (1, 1, .loc 1)] [(.int .i64 14), (.int .i64 (-2))] [(.int .i64 14), (.int .i64 (-2))] H26 (by kernel_rfl) (fill_c (vs := [(.int .i64 14)]) (size := 1) rfl (by kernel_rfl) (by kernel_rfl) (fill_c (vs := [(.int .i64 (-2))]) (size := 1) rfl (by kernel_rfl) (by kernel_rfl) (by kernel_rfl))) ?_
            refine t_upd true 2 0 [(.int .i64 0), (.int .i64 0)] (.agg [(.int .i64 14), (.int .i64 (-2))]) [(.int .i64 14), (.int .i64 (-2))] [(.int .i64 14), (.int .i64 (-2))] H26 (by kernel_rfl) rfl (all_c rfl (all_c rfl all_n)) ⟨rfl, Nat.le_of_ble_eq_true (by kernel_rfl), rfl⟩ ?_
            refine t_done [log0, (.int .i64 time1), (.int .i64 user2), (.int .i64 action3), .empty, (.agg [(.int .i64 14), (.int .i64 (-2))]), (.agg [(.int .i64 r5), (.int .i64 r6)]), (.bool (!(((r5) == 0) && (((r6) == 0) && true)))), d13, (.agg [(.int .i64 last14), (.int .i64 last15), (.int .i64 last16), (.int .i64 last17)]), (.agg [(.int .i64 time1), (.int .i64 user2), (.int .i64 action3), (.int .i64 0)]), (.bool (!r25)), (.bool (decide (time1 < last14))), (.bool (((len28 : Int)) == 40))] H26 (by kernel_rfl) ?_
            refine then_norm ?_
            refine w_ret ?_
            refine block_ret ?_
            refine then_ret ?_
            exact body_ret (vs := [.empty, (.agg [(.int .i64 14), (.int .i64 (-2))])]) _ (by kernel_rfl) rfl h
          · replace h := h.2 (is_eq.f hc)
            refine w_skip ?_
            refine block_norm ?_
            refine then_norm ?_
            refine w_seq ?_
            refine w_run [0, 0, 0, 1, 0, 1] ?_
            refine t_call true naudit_chain [(.int .i64 last17), (.agg [(.int .i64 time1), (.int .i64 user2), (.int .i64 action3), (.int .i64 0)])] H26 (by kernel_rfl) h ?_
            clear h
            rintro _ H30 ⟨r29, rfl, h⟩
            refine t_upd true 1 3 [(.int .i64 time1), (.int .i64 user2), (.int .i64 action3), (.int .i64 0)] (.int .i64 r29) [(.int .i64 r29)] [(.int .i64 time1), (.int .i64 user2), (.int .i64 action3), (.int .i64 r29)] H30 (by kernel_rfl) rfl (all_c rfl all_n) ⟨rfl, Nat.le_of_ble_eq_true (by kernel_rfl), rfl⟩ ?_
            refine t_done [log0, (.int .i64 time1), (.int .i64 user2), (.int .i64 action3), .empty, (.agg [(.int .i64 0), (.int .i64 0)]), (.agg [(.int .i64 r5), (.int .i64 r6)]), (.bool (!(((r5) == 0) && (((r6) == 0) && true)))), d13, (.agg [(.int .i64 last14), (.int .i64 last15), (.int .i64 last16), (.int .i64 last17)]), (.agg [(.int .i64 time1), (.int .i64 user2), (.int .i64 action3), (.int .i64 r29)]), (.bool (!r25)), (.bool (decide (time1 < last14))), (.bool (((len28 : Int)) == 40))] H30 (by kernel_rfl) ?_
            refine then_norm ?_
            refine w_seq ?_
            refine w_run [0, 1, 0, 1, 1, 1, 0, 1] ?_
            refine t_call false nslices_Clone__api_Record_api_Record [log0] H30 (by kernel_rfl) h ?_
            clear h
            rintro r32 H33 h
            obtain ⟨b35, H36, hb⟩ : ∃ b H', NewB H33 4 [(.int .i64 time1), (.int .i64 user2), (.int .i64 action3), (.int .i64 r29)] b H' := ⟨_, _, rfl, rfl⟩
            replace h := h b35 H36 hb
            refine t_bs false 4 [(.int .i64 0), (.int .i64 0), (.int .i64 0), (.int .i64 0)] [(0, 4, .loc 0)] 1 [(.agg [(.int .i64 time1), (.int .i64 user2), (.int .i64 action3), (.int .i64 r29)])] [(.int .i64 time1), (.int .i64 user2), (.int .i64 action3), (.int .i64 r29)] b35 H36 H33 (by kernel_rfl) (fill_c (vs := [(.int .i64 time1), (.int .i64 user2), (.int .i64 action3), (.int .i64 r29)]) (size := 4) rfl (by kernel_rfl) (by kernel_rfl) (by kernel_rfl)) hb ?_
            obtain ⟨a37, H38, ha, h⟩ := h
            refine t_app true 4 32 r32 (.slice b35 0 1 (some 1)) a37 H38 H36 (by kernel_rfl) ha ?_
            refine t_build false [(.int .i64 0), (.int .i64 0)] [] [] [(.int .i64 0), (.int .i64 0)] H38 (by kernel_rfl) (by kernel_rfl) ?_
            refine t_upd true 2 0 [(.int .i64 0), (.int .i64 0)] (.agg [(.int .i64 0), (.int .i64 0)]) [(.int .i64 0), (.int .i64 0)] [(.int .i64 0), (.int .i64 0)] H38 (by kernel_rfl) rfl (all_c rfl (all_c rfl all_n)) ⟨rfl, Nat.le_of_ble_eq_true (by kernel_rfl), rfl⟩ ?_
            refine t_done [log0, (.int .i64 time1), (.int .i64 user2), (.int .i64 action3), a37, (.agg [(.int .i64 0), (.int .i64 0)]), (.agg [(.int .i64 r5), (.int .i64 r6)]), (.bool (!(((r5) == 0) && (((r6) == 0) && true)))), d13, (.agg [(.int .i64 last14), (.int .i64 last15), (.int .i64 last16), (.int .i64 last17)]), (.agg [(.int .i64 time1), (.int .i64 user2), (.int .i64 action3), (.int .i64 r29)]), (.bool (!r25)), (.bool (decide (time1 < last14))), (.bool (((len28 : Int)) == 40))] H38 (by kernel_rfl) ?_
            refine then_norm ?_
            refine w_ret ?_
            exact body_ret (vs := [a37, (.agg [(.int .i64 0), (.int .i64 0)])]) _ (by kernel_rfl) rfl h

def rf_slices_Clone__api_Record_api_Record : RFunc := ⟨0, 0, [], .fail, some (.clone 4 32)⟩

def rf_audit_Query (naudit_Validate : Nat) : RFunc := ⟨4, 17, [.var 4, .part 5 (some 2)],
 ((.seq (.ops [⟨.move (.k (.empty)), none, (some 4), true⟩, ⟨.tomb 1 (.k (.agg [.int .i64 0, .int .i64 0])), none, (some 5), true⟩])
 ((.seq (.ops [⟨.move (.var 0), none, none, true⟩, ⟨.callS naudit_Validate [(.loc 0)], none, none, true⟩, ⟨.tomb 1 (.k (.agg [.int .i64 0, .int .i64 0])), none, (some 6), true⟩, ⟨.upd 2 0 (.loc 2) (.loc 1), none, (some 6), true⟩])
 ((.seq ((.seq (.ops [⟨.field 0 (some 2) (.var 6), none, none, true⟩, ⟨.build [.int .i64 0, .int .i64 0] [], none, none, true⟩, ⟨.bin .eql (.agg [.int, .int]) (.loc 0) (.loc 1), none, none, true⟩, ⟨.move (.loc 2), none, none, true⟩, ⟨.move (.var 1), none, none, true⟩, ⟨.bin .lss .no (.loc 4) (.k (.int .i64 (-1))), none, none, true⟩, ⟨.move (.loc 5), none, none, true⟩, ⟨.move (.var 1), none, none, true⟩, ⟨.bin .gtr .no (.loc 7) (.k (.int .i64 7)), none, none, true⟩, ⟨.pick (.loc 6) (.k (.bool true)) (.loc 8), none, none, true⟩, ⟨.pick (.loc 3) (.loc 9) (.k (.bool false)), none, (some 7), true⟩])
 (.cond (.var 7) (.ops [⟨.build [.int .i64 0, .int .i64 0] [(0, 1, (.k (.int .i64 3))), (1, 1, (.k (.int .i64 (-2))))], none, none, true⟩, ⟨.upd 2 0 (.var 6) (.loc 0), none, (some 6), true⟩]) (.skip))))
 ((.seq (.ops [⟨.move (.k (.empty)), none, (some 9), true⟩])
 ((.seq ((.seq (.ops [⟨.field 0 (some 2) (.var 6), none, none, true⟩, ⟨.build [.int .i64 0, .int .i64 0] [], none, none, true⟩, ⟨.bin .neq (.agg [.int, .int]) (.loc 0) (.loc 1), none, (some 8), true⟩])
 (.cond (.var 8) ((.seq (.ops [⟨.move (.var 9), none, none, false⟩, ⟨.field 0 (some 2) (.var 6), none, none, true⟩, ⟨.move (.loc 0), none, (some 4), false⟩, ⟨.upd 2 0 (.var 5) (.loc 1), none, (some 5), true⟩])
 (.ret))) (.skip))))
 ((.seq ((.seq (.ops [⟨.move (.var 0), none, (some 13), true⟩, ⟨.len (.loc 0), none, (some 11), true⟩, ⟨.move (.k (.int .i64 0)), none, (some 10), true⟩])
 (.block 0 (.loop ((.seq (.ops [⟨.bin .lss .no (.var 10) (.var 11), none, (some 12), true⟩])
 ((.seq (.cond (.var 12) (.skip) (.exit 0))
 ((.seq (.block 1 ((.seq (.ops [⟨.move (.var 10), none, none, true⟩, ⟨.indexAddr 4 (.var 13) (.var 10), none, none, true⟩, ⟨.load (some 4) (.loc 1), none, none, true⟩, ⟨.tomb 1 (.k (.agg [.int .i64 0, .int .i64 0, .int .i64 0, .int .i64 0])), none, (some 14), true⟩, ⟨.move (.loc 0), none, (some 16), true⟩, ⟨.upd 4 0 (.loc 3) (.loc 2), none, (some 14), true⟩])
 ((.seq (.ops [⟨.field 0 none (.var 14), none, none, true⟩, ⟨.field 0 none (.var 14), none, none, true⟩, ⟨.move (.var 2), none, none, true⟩, ⟨.bin .geq .no (.loc 1) (.loc 2), none, none, true⟩, ⟨.move (.loc 3), none, none, true⟩, ⟨.field 0 none (.var 14), none, none, true⟩, ⟨.field 0 none (.var 14), none, none, true⟩, ⟨.move (.var 3), none, none, true⟩, ⟨.bin .leq .no (.loc 6) (.loc 7), none, none, true⟩, ⟨.pick (.loc 4) (.loc 8) (.k (.bool false)), none, none, true⟩, ⟨.move (.loc 9), none, none, true⟩, ⟨.move (.var 1), none, none, true⟩, ⟨.bin .eql .no (.loc 11) (.k (.int .i64 (-1))), none, none, true⟩, ⟨.move (.loc 12), none, none, true⟩, ⟨.move (.var 1), none, none, true⟩, ⟨.field 0 none (.var 14), none, none, true⟩, ⟨.field 1 none (.var 14), none, none, true⟩, ⟨.bin .eql .no (.loc 14) (.loc 16), none, none, true⟩, ⟨.pick (.loc 13) (.k (.bool true)) (.loc 17), none, none, true⟩, ⟨.pick (.loc 10) (.loc 18) (.k (.bool false)), none, (some 15), true⟩])
 (.cond (.var 15) (.ops [⟨.move (.var 9), none, none, true⟩, ⟨.move (.var 16), none, none, true⟩, ⟨.buildSlice 1 [.int .i64 0] [(0, 1, (.loc 1))] 1, none, none, true⟩, ⟨.append 1 8 (.loc 0) (.loc 2), none, none, true⟩, ⟨.move (.loc 3), none, (some 9), true⟩]) (.skip)))))))
 (.ops [⟨.bin .add .no (.var 10) (.k (.int .i64 1)), none, none, true⟩, ⟨.move (.loc 0), none, (some 10), true⟩])))))))))))
 ((.seq (.ops [⟨.move (.var 9), none, none, false⟩, ⟨.field 0 (some 2) (.var 6), none, none, true⟩, ⟨.move (.loc 0), none, (some 4), false⟩, ⟨.upd 2 0 (.var 5) (.loc 1), none, (some 5), true⟩])
 (.ret))))))))))))))), none⟩
theorem v_audit_Query {F : Nat → Option RFunc} {me naudit_Validate : Nat} (hF : F me = some (rf_audit_Query naudit_Validate)) {fl : Nat} {H : Heap} {Q : AV → Heap → Prop} (log0 : AV) (user1 : Int) (from2 : Int) (to3 : Int)
  (h : ∀ (H4 : Heap), Dead1 H 1 H4 → Ret F fl naudit_Validate [log0] H4 (fun v8 H7 => ∃ (r5 : Int) (r6 : Int), v8 = (.agg [(.int .i64 r5), (.int .i64 r6)]) ∧ ∀ (H9 : Heap), Dead1 H7 1 H9 → ∃ (R10 : Int → Int → Prop), (((((((r5 = 0) ∧ (((r6 = 0) ∧ (True))))) ∧ (((user1 < (-1)) ∨ (user1 > 7))))) → R10 3 (-2)) ∧ (¬(((((r5 = 0) ∧ (((r6 = 0) ∧ (True))))) ∧ (((user1 < (-1)) ∨ (user1 > 7))))) → R10 r5 r6)) ∧ (∀ (f11 : Int) (f12 : Int), R10 f11 f12 → ((¬(((f11 = 0) ∧ (((f12 = 0) ∧ (True)))))) → Q (.tuple [.empty, (.agg [(.int .i64 f11), (.int .i64 f12)])]) H9) ∧ (¬(¬(((f11 = 0) ∧ (((f12 = 0) ∧ (True)))))) → ∃ len14 : Nat, lenA log0 = some len14 ∧ ∃ (J15 : Nat → AV → Int → Heap → Prop) (k16 : Nat), J15 k16 .empty 0 H9 ∧ (∀ (m17 : Nat) (out18 : AV) (v19 : Int) (H24 : Heap), J15 m17 out18 v19 H24 → ((v19 < (len14 : Int)) → ∃ (e25 : Int) (e26 : Int) (e27 : Int) (e28 : Int), getA H24 4 (some 4) log0 v19 0 = some (.agg [(.int .i64 e25), (.int .i64 e26), (.int .i64 e27), (.int .i64 e28)]) ∧ ∀ (H30 : Heap), Dead1 H24 1 H30 → ((((((e25 ≥ from2) ∧ (e25 ≤ to3))) ∧ (((user1 = (-1)) ∨ (user1 = e26))))) → ∀ (b31 : Nat) (H32 : Heap), NewB H30 1 [(.int .i64 v19)] b31 H32 → ∃ (a33 : AV) (H34 : Heap), appA fl true 1 8 H32 out18 (.slice b31 0 1 (some 1)) = some (a33, H34) ∧ ∃ m35 : Nat, m35 < m17 ∧ J15 m35 a33 (IntKind.wrap .i64 (v19 + 1)) H34) ∧ (¬(((((e25 ≥ from2) ∧ (e25 ≤ to3))) ∧ (((user1 = (-1)) ∨ (user1 = e26))))) → ∃ m36 : Nat, m36 < m17 ∧ J15 m36 out18 (IntKind.wrap .i64 (v19 + 1)) H30)) ∧ (¬(v19 < (len14 : Int)) → Q (.tuple [out18, (.agg [(.int .i64 f11), (.int .i64 f12)])]) H24)))))) : Ret F fl me [log0, (.int .i64 user1), (.int .i64 from2), (.int .i64 to3)] H Q := by
  refine ret_intro hF rfl ?_
  refine w_seq ?_
  refine w_run [0, 1] ?_
  obtain ⟨H4, hb⟩ : ∃ H', Dead1 H 1 H' := ⟨_, ⟨rfl⟩⟩
  replace h := h H4 hb
  refine t_tomb true 1 (.agg [(.int .i64 0), (.int .i64 0)]) [(.int .i64 0), (.int .i64 0)] H4 H (by kernel_rfl) rfl hb ?_
  refine t_done [log0, (.int .i64 user1), (.int .i64 from2), (.int .i64 to3), .empty, (.agg [(.int .i64 0), (.int .i64 0)]), .undef, .undef, .undef, .undef, .undef, .undef, .undef, .undef, .undef, .undef, .undef] H4 (by kernel_rfl) ?_
  refine then_norm ?_
  refine w_seq ?_
  refine w_run [0, 1, 1, 1] ?_
  refine t_call true naudit_Validate [log0] H4 (by kernel_rfl) h ?_
  clear h
  rintro _ H7 ⟨r5, r6, rfl, h⟩
  obtain ⟨H9, hb⟩ : ∃ H', Dead1 H7 1 H' := ⟨_, ⟨rfl⟩⟩
  replace h := h H9 hb
  refine t_tomb true 1 (.agg [(.int .i64 0), (.int .i64 0)]) [(.int .i64 0), (.int .i64 0)] H9 H7 (by kernel_rfl) rfl hb ?_
  refine t_upd true 2 0 [(.int .i64 0), (.int .i64 0)] (.agg [(.int .i64 r5), (.int .i64 r6)]) [(.int .i64 r5), (.int .i64 r6)] [(.int .i64 r5), (.int .i64 r6)] H9 (by kernel_rfl) rfl (all_c rfl (all_c rfl all_n)) ⟨rfl, Nat.le_of_ble_eq_true (by kernel_rfl), rfl⟩ ?_
  refine t_done [log0, (.int .i64 user1), (.int .i64 from2), (.int .i64 to3), .empty, (.agg [(.int .i64 0), (.int .i64 0)]), (.agg [(.int .i64 r5), (.int .i64 r6)]), .undef, .undef, .undef, .undef, .undef, .undef, .undef, .undef, .undef, .undef] H9 (by kernel_rfl) ?_
  refine then_norm ?_
  refine w_seq ?_
  obtain ⟨R10, h, hK⟩ := h
  refine w_join (fun EI HI => ∃ (f11 : Int) (f12 : Int) (d13 : AV), EI = [log0, (.int .i64 user1), (.int .i64 from2), (.int .i64 to3), .empty, (.agg [(.int .i64 0), (.int .i64 0)]), (.agg [(.int .i64 f11), (.int .i64 f12)]), d13, .undef, .undef, .undef, .undef, .undef, .undef, .undef, .undef, .undef] ∧ H9 = HI ∧ R10 f11 f12) ?_ ?_
  · clear hK
    refine w_seq ?_
    refine w_run [0, 1, 0, 0, 0, 0, 0, 0, 0, 0, 0] ?_
    refine t_build true [(.int .i64 0), (.int .i64 0)] [] [] [(.int .i64 0), (.int .i64 0)] H9 (by kernel_rfl) (by kernel_rfl) ?_
    refine t_done [log0, (.int .i64 user1), (.int .i64 from2), (.int .i64 to3), .empty, (.agg [(.int .i64 0), (.int .i64 0)]), (.agg [(.int .i64 r5), (.int .i64 r6)]), (.bool ((((r5) == 0) && (((r6) == 0) && true)) && ((decide (user1 < (-1))) || (decide (user1 > 7))))), .undef, .undef, .undef, .undef, .undef, .undef, .undef, .undef, .undef] H9 (by kernel_rfl) ?_
    refine then_norm ?_
    refine w_cond (t := ((((r5) == 0) && (((r6) == 0) && true)) && ((decide (user1 < (-1))) || (decide (user1 > 7))))) rfl (fun hc => ?_) (fun hc => ?_)
    · replace h := h.1 ((is_and (is_and is_eq (is_and is_eq is_true)) (is_or is_dec is_dec)).t hc)
      refine w_run [1, 1] ?_
      refine t_build true [(.int .i64 0), (.int .i64 0)] [(0, 1, .loc 0), (1, 1, .loc 1)] [(.int .i64 3), (.int .i64 (-2))] [(.int .i64 3), (.int .i64 (-2))] H9 (by kernel_rfl) (fill_c (vs := [(.int .i64 3)]) (size := 1) rfl (by kernel_rfl) (by kernel_rfl) (fill_c (vs := [(.int .i64 (-2))]) (size := 1) rfl (by kernel_rfl) (by kernel_rfl) (by kernel_rfl))) ?_
      refine t_upd true 2 0 [(.int .i64 r5), (.int .i64 r6)] (.agg [(.int .i64 3), (.int .i64 (-2))]) [(.int .i64 3), (.int .i64 (-2))] [(.int .i64 3), (.int .i64 (-2))] H9 (by kernel_rfl) rfl (all_c rfl (all_c rfl all_n)) ⟨rfl, Nat.le_of_ble_eq_true (by kernel_rfl), rfl⟩ ?_
      refine t_done [log0, (.int .i64 user1), (.int .i64 from2), (.int .i64 to3), .empty, (.agg [(.int .i64 0), (.int .i64 0)]), (.agg [(.int .i64 3), (.int .i64 (-2))]), (.bool ((((r5) == 0) && (((r6) == 0) && true)) && ((decide (user1 < (-1))) || (decide (user1 > 7))))), .undef, .undef, .undef, .undef, .undef, .undef, .undef, .undef, .undef] H9 (by kernel_rfl) ?_
      refine join_norm ⟨_, _, _, rfl, rfl, h⟩
    · replace h := h.2 ((is_and (is_and is_eq (is_and is_eq is_true)) (is_or is_dec is_dec)).f hc)
      refine w_skip ?_
      refine join_norm ⟨_, _, _, rfl, rfl, h⟩
  · clear h
    rintro EI HI ⟨f11, f12, d13, rfl, rfl, hJ⟩
    have h := hK f11 f12 hJ
    clear hJ hK
    refine then_norm ?_
    refine w_seq ?_
    refine w_run [0] ?_
    refine t_done [log0, (.int .i64 user1), (.int .i64 from2), (.int .i64 to3), .empty, (.agg [(.int .i64 0), (.int .i64 0)]), (.agg [(.int .i64 f11), (.int .i64 f12)]), d13, .undef, .empty, .undef, .undef, .undef, .undef, .undef, .undef, .undef] H9 (by kernel_rfl) ?_
    refine then_norm ?_
    refine w_seq ?_
    refine w_seq ?_
    refine w_run [0, 1, 0] ?_
    refine t_build true [(.int .i64 0), (.int .i64 0)] [] [] [(.int .i64 0), (.int .i64 0)] H9 (by kernel_rfl) (by kernel_rfl) ?_
    refine t_done [log0, (.int .i64 user1), (.int .i64 from2), (.int .i64 to3), .empty, (.agg [(.int .i64 0), (.int .i64 0)]), (.agg [(.int .i64 f11), (.int .i64 f12)]), d13, (.bool (!(((f11) == 0) && (((f12) == 0) && true)))), .empty, .undef, .undef, .undef, .undef, .undef, .undef, .undef] H9 (by kernel_rfl) ?_
    refine then_norm ?_
    refine w_cond (t := (!(((f11) == 0) && (((f12) == 0) && true)))) rfl (fun hc => ?_) (fun hc => ?_)
    · replace h := h.1 ((is_not (is_and is_eq (is_and is_eq is_true))).t hc)
      refine w_seq ?_
      refine w_run [0, 0, 0, 1] ?_
      refine t_upd true 2 0 [(.int .i64 0), (.int .i64 0)] (.agg [(.int .i64 f11), (.int .i64 f12)]) [(.int .i64 f11), (.int .i64 f12)] [(.int .i64 f11), (.int .i64 f12)] H9 (by kernel_rfl) rfl (all_c rfl (all_c rfl all_n)) ⟨rfl, Nat.le_of_ble_eq_true (by kernel_rfl), rfl⟩ ?_
      refine t_done [log0, (.int .i64 user1), (.int .i64 from2), (.int .i64 to3), .empty, (.agg [(.int .i64 f11), (.int .i64 f12)]), (.agg [(.int .i64 f11), (.int .i64 f12)]), d13, (.bool (!(((f11) == 0) && (((f12) == 0) && true)))), .empty, .undef, .undef, .undef, .undef, .undef, .undef, .undef] H9 (by kernel_rfl) ?_
      refine then_norm ?_
      refine w_ret ?_
      refine then_ret ?_
      exact body_ret (vs := [.empty, (.agg [(.int .i64 f11), (.int .i64 f12)])]) _ (by kernel_rfl) rfl h
    · replace h := h.2 ((is_not (is_and is_eq (is_and is_eq is_true))).f hc)
      refine w_skip ?_
      refine then_norm ?_
      refine w_seq ?_
      refine w_seq ?_
      refine w_run [0, 1, 0] ?_
      obtain ⟨len14, hl, h⟩ := h
      refine t_len true log0 len14 H9 (by kernel_rfl) hl ?_
      refine t_done [log0, (.int .i64 user1), (.int .i64 from2), (.int .i64 to3), .empty, (.agg [(.int .i64 0), (.int .i64 0)]), (.agg [(.int .i64 f11), (.int .i64 f12)]), d13, (.bool (!(((f11) == 0) && (((f12) == 0) && true)))), .empty, (.int .i64 0), (.int .i64 (len14 : Int)), .undef, log0, .undef, .undef, .undef] H9 (by kernel_rfl) ?_
      refine then_norm ?_
      refine w_block ?_
      obtain ⟨J15, k16, h0, h⟩ := h
      refine w_loop (I := fun mI EI HI => ∃ (out18 : AV) (v19 : Int) (d20 : AV) (d21 : AV) (d22 : AV) (d23 : AV), EI = [log0, (.int .i64 user1), (.int .i64 from2), (.int .i64 to3), .empty, (.agg [(.int .i64 0), (.int .i64 0)]), (.agg [(.int .i64 f11), (.int .i64 f12)]), d13, (.bool (!(((f11) == 0) && (((f12) == 0) && true)))), out18, (.int .i64 v19), (.int .i64 (len14 : Int)), d20, log0, d21, d22, d23] ∧ J15 mI out18 v19 HI) ?_ k16 ⟨_, _, _, _, _, _, rfl, h0⟩
      clear h0
      rintro m17 EI H24 ⟨out18, v19, d20, d21, d22, d23, rfl, hJ⟩
      replace h := h m17 out18 v19 H24 hJ
      clear hJ
      refine w_seq ?_
      refine w_run [0] ?_
      refine t_done [log0, (.int .i64 user1), (.int .i64 from2), (.int .i64 to3), .empty, (.agg [(.int .i64 0), (.int .i64 0)]), (.agg [(.int .i64 f11), (.int .i64 f12)]), d13, (.bool (!(((f11) == 0) && (((f12) == 0) && true)))), out18, (.int .i64 v19), (.int .i64 (len14 : Int)), (.bool (decide (v19 < (len14 : Int)))), log0, d21, d22, d23] H24 (by kernel_rfl) ?_
      refine then_norm ?_
      refine w_seq ?_
      refine w_cond (t := (decide (v19 < (len14 : Int)))) rfl (fun hc => ?_) (fun hc => ?_)
      · replace h := h.1 (is_dec.t hc)
        refine w_skip ?_
        refine then_norm ?_
        refine w_seq ?_
        refine w_block ?_
        refine w_seq ?_
        refine w_run [0, 1, 1, 1, 0, 1] ?_
        obtain ⟨e25, e26, e27, e28, hg29, h⟩ := h
        refine t_idxG true 4 log0 .i64 v19 H24 (by kernel_rfl) hg29 ?_
        refine t_loadG true (some 4) 4 log0 v19 0 (.agg [(.int .i64 e25), (.int .i64 e26), (.int .i64 e27), (.int .i64 e28)]) H24 (by kernel_rfl) hg29 ?_
        obtain ⟨H30, hb⟩ : ∃ H', Dead1 H24 1 H' := ⟨_, ⟨rfl⟩⟩
        replace h := h H30 hb
        refine t_tomb true 1 (.agg [(.int .i64 0), (.int .i64 0), (.int .i64 0), (.int .i64 0)]) [(.int .i64 0), (.int .i64 0), (.int .i64 0), (.int .i64 0)] H30 H24 (by kernel_rfl) rfl hb ?_
        refine t_upd true 4 0 [(.int .i64 0), (.int .i64 0), (.int .i64 0), (.int .i64 0)] (.agg [(.int .i64 e25), (.int .i64 e26), (.int .i64 e27), (.int .i64 e28)]) [(.int .i64 e25), (.int .i64 e26), (.int .i64 e27), (.int .i64 e28)] [(.int .i64 e25), (.int .i64 e26), (.int .i64 e27), (.int .i64 e28)] H30 (by kernel_rfl) rfl (all_c rfl (all_c rfl (all_c rfl (all_c rfl all_n)))) ⟨rfl, Nat.le_of_ble_eq_true (by kernel_rfl), rfl⟩ ?_
        refine t_done [log0, (.int .i64 user1), (.int .i64 from2), (.int .i64 to3), .empty, (.agg [(.int .i64 0), (.int .i64 0)]), (.agg [(.int .i64 f11), (.int .i64 f12)]), d13, (.bool (!(((f11) == 0) && (((f12) == 0) && true)))), out18, (.int .i64 v19), (.int .i64 (len14 : Int)), (.bool (decide (v19 < (len14 : Int)))), log0, (.agg [(.int .i64 e25), (.int .i64 e26), (.int .i64 e27), (.int .i64 e28)]), d22, (.int .i64 v19)] H30 (by kernel_rfl) ?_
        refine then_norm ?_
        refine w_seq ?_
        refine w_run [0, 0, 0, 0, 0, 0, 0, 0, 0, 0, 0, 0, 0, 0, 0, 0, 0, 0, 0, 0] ?_
        refine t_done [log0, (.int .i64 user1), (.int .i64 from2), (.int .i64 to3), .empty, (.agg [(.int .i64 0), (.int .i64 0)]), (.agg [(.int .i64 f11), (.int .i64 f12)]), d13, (.bool (!(((f11) == 0) && (((f12) == 0) && true)))), out18, (.int .i64 v19), (.int .i64 (len14 : Int)), (.bool (decide (v19 < (len14 : Int)))), log0, (.agg [(.int .i64 e25), (.int .i64 e26), (.int .i64 e27), (.int .i64 e28)]), (.bool (((decide (e25 ≥ from2)) && (decide (e25 ≤ to3))) && (((user1) == (-1)) || ((user1) == e26)))), (.int .i64 v19)] H30 (by kernel_rfl) ?_
        refine then_norm ?_
        refine w_cond (t := (((decide (e25 ≥ from2)) && (decide (e25 ≤ to3))) && (((user1) == (-1)) || ((user1) == e26)))) rfl (fun hc => ?_) (fun hc => ?_)
        · replace h := h.1 ((is_and (is_and is_dec is_dec) (is_or is_eq is_eq)).t hc)
          refine w_run [0, 0, 1, 1, 0] ?_
          obtain ⟨b31, H32, hb⟩ : ∃ b H', NewB H30 1 [(.int .i64 v19)] b H' := ⟨_, _, rfl, rfl⟩
          replace h := h b31 H32 hb
          refine t_bs true 1 [(.int .i64 0)] [(0, 1, .loc 0)] 1 [(.int .i64 v19)] [(.int .i64 v19)] b31 H32 H30 (by kernel_rfl) (fill_c (vs := [(.int .i64 v19)]) (size := 1) rfl (by kernel_rfl) (by kernel_rfl) (by kernel_rfl)) hb ?_
          obtain ⟨a33, H34, ha, h⟩ := h
          refine t_app true 1 8 out18 (.slice b31 0 1 (some 1)) a33 H34 H32 (by kernel_rfl) ha ?_
          refine t_done [log0, (.int .i64 user1), (.int .i64 from2), (.int .i64 to3), .empty, (.agg [(.int .i64 0), (.int .i64 0)]), (.agg [(.int .i64 f11), (.int .i64 f12)]), d13, (.bool (!(((f11) == 0) && (((f12) == 0) && true)))), a33, (.int .i64 v19), (.int .i64 (len14 : Int)), (.bool (decide (v19 < (len14 : Int)))), log0, (.agg [(.int .i64 e25), (.int .i64 e26), (.int .i64 e27), (.int .i64 e28)]), (.bool (((decide (e25 ≥ from2)) && (decide (e25 ≤ to3))) && (((user1) == (-1)) || ((user1) == e26)))), (.int .i64 v19)] H34 (by kernel_rfl) ?_
          refine block_norm ?_
          refine then_norm ?_
          refine w_run [0, 0] ?_
          refine t_done [log0, (.int .i64 user1), (.int .i64 from2), (.int .i64 to3), .empty, (.agg [(.int .i64 0), (.int .i64 0)]), (.agg [(.int .i64 f11), (.int .i64 f12)]), d13, (.bool (!(((f11) == 0) && (((f12) == 0) && true)))), a33, (.int .i64 (IntKind.wrap .i64 (v19 + 1))), (.int .i64 (len14 : Int)), (.bool (decide (v19 < (len14 : Int)))), log0, (.agg [(.int .i64 e25), (.int .i64 e26), (.int .i64 e27), (.int .i64 e28)]), (.bool (((decide (e25 ≥ from2)) && (decide (e25 ≤ to3))) && (((user1) == (-1)) || ((user1) == e26)))), (.int .i64 v19)] H34 (by kernel_rfl) ?_
          obtain ⟨m', hm, h⟩ := h
          refine loop_norm ⟨m', hm, _, _, _, _, _, _, rfl, h⟩
        · replace h := h.2 ((is_and (is_and is_dec is_dec) (is_or is_eq is_eq)).f hc)
          refine w_skip ?_
          refine block_norm ?_
          refine then_norm ?_
          refine w_run [0, 0] ?_
          refine t_done [log0, (.int .i64 user1), (.int .i64 from2), (.int .i64 to3), .empty, (.agg [(.int .i64 0), (.int .i64 0)]), (.agg [(.int .i64 f11), (.int .i64 f12)]), d13, (.bool (!(((f11) == 0) && (((f12) == 0) && true)))), out18, (.int .i64 (IntKind.wrap .i64 (v19 + 1))), (.int .i64 (len14 : Int)), (.bool (decide (v19 < (len14 : Int)))), log0, (.agg [(.int .i64 e25), (.int .i64 e26), (.int .i64 e27), (.int .i64 e28)]), (.bool (((decide (e25 ≥ from2)) && (decide (e25 ≤ to3))) && (((user1) == (-1)) || ((user1) == e26)))), (.int .i64 v19)] H30 (by kernel_rfl) ?_
          obtain ⟨m', hm, h⟩ := h
          refine loop_norm ⟨m', hm, _, _, _, _, _, _, rfl, h⟩
      · replace h := h.2 (is_dec.f hc)
        refine w_exit ?_
        refine then_exit ?_
        refine loop_exit ?_
        refine block_exit ?_
        refine then_norm ?_
        refine w_seq ?_
        refine w_run [0, 0, 0, 1] ?_
        refine t_upd true 2 0 [(.int .i64 0), (.int .i64 0)] (.agg [(.int .i64 f11), (.int .i64 f12)]) [(.int .i64 f11), (.int .i64 f12)] [(.int .i64 f11), (.int .i64 f12)] H24 (by kernel_rfl) rfl (all_c rfl (all_c rfl all_n)) ⟨rfl, Nat.le_of_ble_eq_true (by kernel_rfl), rfl⟩ ?_
        refine t_done [log0, (.int .i64 user1), (.int .i64 from2), (.int .i64 to3), out18, (.agg [(.int .i64 f11), (.int .i64 f12)]), (.agg [(.int .i64 f11), (.int .i64 f12)]), d13, (.bool (!(((f11) == 0) && (((f12) == 0) && true)))), out18, (.int .i64 v19), (.int .i64 (len14 : Int)), (.bool (decide (v19 < (len14 : Int)))), log0, d21, d22, d23] H24 (by kernel_rfl) ?_
        refine then_norm ?_
        refine w_ret ?_
        exact body_ret (vs := [out18, (.agg [(.int .i64 f11), (.int .i64 f12)])]) _ (by kernel_rfl) rfl h

def rf_audit_Fork (naudit_Validate : Nat) : RFunc := ⟨2, 10, [.var 2, .part 3 (some 2)],
 ((.seq (.ops [⟨.move (.k (.int .i64 0)), none, (some 2), true⟩, ⟨.tomb 1 (.k (.agg [.int .i64 0, .int .i64 0])), none, (some 3), true⟩])
 ((.seq ((.seq (.ops [⟨.move (.var 0), none, none, true⟩, ⟨.callS naudit_Validate [(.loc 0)], none, none, true⟩, ⟨.tomb 1 (.k (.agg [.int .i64 0, .int .i64 0])), none, (some 4), true⟩, ⟨.upd 2 0 (.loc 2) (.loc 1), none, (some 4), true⟩])
 ((.seq (.ops [⟨.field 0 (some 2) (.var 4), none, none, true⟩, ⟨.build [.int .i64 0, .int .i64 0] [], none, none, true⟩, ⟨.bin .neq (.agg [.int, .int]) (.loc 0) (.loc 1), none, (some 5), true⟩])
 (.cond (.var 5) ((.seq (.ops [⟨.field 0 (some 2) (.var 4), none, none, true⟩, ⟨.move (.k (.int .i64 0)), none, (some 2), false⟩, ⟨.upd 2 0 (.var 3) (.loc 0), none, (some 3), true⟩])
 (.ret))) (.skip))))))
 ((.seq ((.seq (.ops [⟨.move (.var 1), none, none, true⟩, ⟨.callS naudit_Validate [(.loc 0)], none, none, true⟩, ⟨.tomb 1 (.k (.agg [.int .i64 0, .int .i64 0])), none, (some 6), true⟩, ⟨.upd 2 0 (.loc 2) (.loc 1), none, (some 6), true⟩])
 ((.seq (.ops [⟨.field 0 (some 2) (.var 6), none, none, true⟩, ⟨.build [.int .i64 0, .int .i64 0] [], none, none, true⟩, ⟨.bin .neq (.agg [.int, .int]) (.loc 0) (.loc 1), none, (some 7), true⟩])
 (.cond (.var 7) ((.seq (.ops [⟨.field 0 none (.var 6), none, none, true⟩, ⟨.field 0 none (.var 6), none, none, true⟩, ⟨.build [.int .i64 0, .int .i64 0] [(0, 1, (.loc 1)), (1, 1, (.k (.int .i64 (-2))))], none, none, true⟩, ⟨.move (.k (.int .i64 0)), none, (some 2), false⟩, ⟨.upd 2 0 (.var 3) (.loc 2), none, (some 3), true⟩])
 (.ret))) (.skip))))))
 ((.seq (.ops [⟨.move (.k (.int .i64 0)), none, (some 8), true⟩])
 ((.seq (.block 0 (.loop ((.seq ((.seq (.ops [⟨.move (.var 8), none, none, true⟩, ⟨.move (.var 0), none, none, true⟩, ⟨.len (.loc 1), none, none, true⟩, ⟨.move (.var 1), none, none, true⟩, ⟨.len (.loc 3), none, none, true⟩, ⟨.min (.loc 2) [(.loc 4)], none, none, true⟩, ⟨.bin .lss .no (.loc 0) (.loc 5), none, none, true⟩, ⟨.move (.loc 6), none, none, true⟩, ⟨.move (.var 0), none, none, false⟩, ⟨.move (.var 8), none, none, false⟩, ⟨.indexAddr 4 (.loc 8) (.loc 9), (some (7, true)), none, false⟩, ⟨.load (some 4) (.loc 10), (some (7, true)), none, false⟩, ⟨.move (.var 1), none, none, false⟩, ⟨.move (.var 8), none, none, false⟩, ⟨.indexAddr 4 (.loc 12) (.loc 13), (some (7, true)), none, false⟩, ⟨.load (some 4) (.loc 14), (some (7, true)), none, false⟩, ⟨.bin .eql (.agg [.int, .int, .int, .int]) (.loc 11) (.loc 15), (some (7, true)), none, true⟩, ⟨.pick (.loc 7) (.loc 16) (.k (.bool false)), none, (some 9), true⟩])
 (.cond (.var 9) (.skip) (.exit 0))))
 (.block 1 (.ops [⟨.move (.var 8), none, none, true⟩, ⟨.bin .add .no (.loc 0) (.k (.int .i64 1)), none, none, true⟩, ⟨.move (.loc 1), none, (some 8), true⟩]))))))
 ((.seq (.ops [⟨.move (.var 8), none, none, true⟩, ⟨.build [.int .i64 0, .int .i64 0] [], none, none, true⟩, ⟨.move (.loc 0), none, (some 2), true⟩, ⟨.upd 2 0 (.var 3) (.loc 1), none, (some 3), true⟩])
 (.ret))))))))))))), none⟩
theorem v_audit_Fork {F : Nat → Option RFunc} {me naudit_Validate : Nat} (hF : F me = some (rf_audit_Fork naudit_Validate)) {fl : Nat} {H : Heap} {Q : AV → Heap → Prop} (a0 : AV) (b1 : AV)
  (h : ∀ (H2 : Heap), Dead1 H 1 H2 → Ret F fl naudit_Validate [a0] H2 (fun v6 H5 => ∃ (r3 : Int) (r4 : Int), v6 = (.agg [(.int .i64 r3), (.int .i64 r4)]) ∧ ∀ (H7 : Heap), Dead1 H5 1 H7 → ((¬(((r3 = 0) ∧ (((r4 = 0) ∧ (True)))))) → Q (.tuple [(.int .i64 0), (.agg [(.int .i64 r3), (.int .i64 r4)])]) H7) ∧ (¬(¬(((r3 = 0) ∧ (((r4 = 0) ∧ (True)))))) → Ret F fl naudit_Validate [b1] H7 (fun v11 H10 => ∃ (r8 : Int) (r9 : Int), v11 = (.agg [(.int .i64 r8), (.int .i64 r9)]) ∧ ∀ (H12 : Heap), Dead1 H10 1 H12 → ((¬(((r8 = 0) ∧ (((r9 = 0) ∧ (True)))))) → Q (.tuple [(.int .i64 0), (.agg [(.int .i64 r8), (.int .i64 (-2))])]) H12) ∧ (¬(¬(((r8 = 0) ∧ (((r9 = 0) ∧ (True)))))) → ∃ (J13 : Nat → Int → Prop) (k14 : Nat), J13 k14 0 ∧ (∀ (m15 : Nat) (n16 : Int), J13 m15 n16 → ∃ len18 : Nat, lenA a0 = some len18 ∧ ∃ len19 : Nat, lenA b1 = some len19 ∧ ((n16 < (imin (len18 : Int) (len19 : Int))) → ∃ (e20 : Int) (e21 : Int) (e22 : Int) (e23 : Int), getA H12 4 (some 4) a0 n16 0 = some (.agg [(.int .i64 e20), (.int .i64 e21), (.int .i64 e22), (.int .i64 e23)]) ∧ ∃ (e25 : Int) (e26 : Int) (e27 : Int) (e28 : Int), getA H12 4 (some 4) b1 n16 0 = some (.agg [(.int .i64 e25), (.int .i64 e26), (.int .i64 e27), (.int .i64 e28)]) ∧ ((((e20 = e25) ∧ (((e21 = e26) ∧ (((e22 = e27) ∧ (((e23 = e28) ∧ (True))))))))) → ∃ m30 : Nat, m30 < m15 ∧ J13 m30 (IntKind.wrap .i64 (n16 + 1))) ∧ (¬(((e20 = e25) ∧ (((e21 = e26) ∧ (((e22 = e27) ∧ (((e23 = e28) ∧ (True))))))))) → Q (.tuple [(.int .i64 n16), (.agg [(.int .i64 0), (.int .i64 0)])]) H12)) ∧ (¬(n16 < (imin (len18 : Int) (len19 : Int))) → Q (.tuple [(.int .i64 n16), (.agg [(.int .i64 0), (.int .i64 0)])]) H12))))))) : Ret F fl me [a0, b1] H Q := by
  refine ret_intro hF rfl ?_
  refine w_seq ?_
  refine w_run [0, 1] ?_
  obtain ⟨H2, hb⟩ : ∃ H', Dead1 H 1 H' := ⟨_, ⟨rfl⟩⟩
  replace h := h H2 hb
  refine t_tomb true 1 (.agg [(.int .i64 0), (.int .i64 0)]) [(.int .i64 0), (.int .i64 0)] H2 H (by kernel_rfl) rfl hb ?_
  refine t_done [a0, b1, (.int .i64 0), (.agg [(.int .i64 0), (.int .i64 0)]), .undef, .undef, .undef, .undef, .undef, .undef] H2 (by kernel_rfl) ?_
  refine then_norm ?_
  refine w_seq ?_
  refine w_seq ?_
  refine w_run [0, 1, 1, 1] ?_
  refine t_call true naudit_Validate [a0] H2 (by kernel_rfl) h ?_
  clear h
  rintro _ H5 ⟨r3, r4, rfl, h⟩
  obtain ⟨H7, hb⟩ : ∃ H', Dead1 H5 1 H' := ⟨_, ⟨rfl⟩⟩
  replace h := h H7 hb
  refine t_tomb true 1 (.agg [(.int .i64 0), (.int .i64 0)]) [(.int .i64 0), (.int .i64 0)] H7 H5 (by kernel_rfl) rfl hb ?_
  refine t_upd true 2 0 [(.int .i64 0), (.int .i64 0)] (.agg [(.int .i64 r3), (.int .i64 r4)]) [(.int .i64 r3), (.int .i64 r4)] [(.int .i64 r3), (.int .i64 r4)] H7 (by kernel_rfl) rfl (all_c rfl (all_c rfl all_n)) ⟨rfl, Nat.le_of_ble_eq_true (by kernel_rfl), rfl⟩ ?_
  refine t_done [a0, b1, (.int .i64 0), (.agg [(.int .i64 0), (.int .i64 0)]), (.agg [(.int .i64 r3), (.int .i64 r4)]), .undef, .undef, .undef, .undef, .undef] H7 (by kernel_rfl) ?_
  refine then_norm ?_
  refine w_seq ?_
  refine w_run [0, 1, 0] ?_
  refine t_build true [(.int .i64 0), (.int .i64 0)] [] [] [(.int .i64 0), (.int .i64 0)] H7 (by kernel_rfl) (by kernel_rfl) ?_
  refine t_done [a0, b1, (.int .i64 0), (.agg [(.int .i64 0), (.int .i64 0)]), (.agg [(.int .i64 r3), (.int .i64 r4)]), (.bool (!(((r3) == 0) && (((r4) == 0) && true)))), .undef, .undef, .undef, .undef] H7 (by kernel_rfl) ?_
  refine then_norm ?_
  refine w_cond (t := (!(((r3) == 0) && (((r4) == 0) && true)))) rfl (fun hc => ?_) (fun hc => ?_)
  · replace h := h.1 ((is_not (is_and is_eq (is_and is_eq is_true))).t hc)
    refine w_seq ?_
    refine w_run [0, 0, 1] ?_
    refine t_upd true 2 0 [(.int .i64 0), (.int .i64 0)] (.agg [(.int .i64 r3), (.int .i64 r4)]) [(.int .i64 r3), (.int .i64 r4)] [(.int .i64 r3), (.int .i64 r4)] H7 (by kernel_rfl) rfl (all_c rfl (all_c rfl all_n)) ⟨rfl, Nat.le_of_ble_eq_true (by kernel_rfl), rfl⟩ ?_
    refine t_done [a0, b1, (.int .i64 0), (.agg [(.int .i64 r3), (.int .i64 r4)]), (.agg [(.int .i64 r3), (.int .i64 r4)]), (.bool (!(((r3) == 0) && (((r4) == 0) && true)))), .undef, .undef, .undef, .undef] H7 (by kernel_rfl) ?_
    refine then_norm ?_
    refine w_ret ?_
    refine then_ret ?_
    exact body_ret (vs := [(.int .i64 0), (.agg [(.int .i64 r3), (.int .i64 r4)])]) _ (by kernel_rfl) rfl h
  · replace h := h.2 ((is_not (is_and is_eq (is_and is_eq is_true))).f hc)
    refine w_skip ?_
    refine then_norm ?_
    refine w_seq ?_
    refine w_seq ?_
    refine w_run [0, 1, 1, 1] ?_
    refine t_call true naudit_Validate [b1] H7 (by kernel_rfl) h ?_
    clear h
    rintro _ H10 ⟨r8, r9, rfl, h⟩
    obtain ⟨H12, hb⟩ : ∃ H', Dead1 H10 1 H' := ⟨_, ⟨rfl⟩⟩
    replace h := h H12 hb
    refine t_tomb true 1 (.agg [(.int .i64 0), (.int .i64 0)]) [(.int .i64 0), (.int .i64 0)] H12 H10 (by kernel_rfl) rfl hb ?_
    refine t_upd true 2 0 [(.int .i64 0), (.int .i64 0)] (.agg [(.int .i64 r8), (.int .i64 r9)]) [(.int .i64 r8), (.int .i64 r9)] [(.int .i64 r8), (.int .i64 r9)] H12 (by kernel_rfl) rfl (all_c rfl (all_c rfl all_n)) ⟨rfl, Nat.le_of_ble_eq_true (by kernel_rfl), rfl⟩ ?_
    refine t_done [a0, b1, (.int .i64 0), (.agg [(.int .i64 0), (.int .i64 0)]), (.agg [(.int .i64 r3), (.int .i64 r4)]), (.bool (!(((r3) == 0) && (((r4) == 0) && true)))), (.agg [(.int .i64 r8), (.int .i64 r9)]), .undef, .undef, .undef] H12 (by kernel_rfl) ?_
    refine then_norm ?_
    refine w_seq ?_
    refine w_run [0, 1, 0] ?_
    refine t_build true [(.int .i64 0), (.int .i64 0)] [] [] [(.int .i64 0), (.int .i64 0)] H12 (by kernel_rfl) (by kernel_rfl) ?_
    refine t_done [a0, b1, (.int .i64 0), (.agg [(.int .i64 0), (.int .i64 0)]), (.agg [(.int .i64 r3), (.int .i64 r4)]), (.bool (!(((r3) == 0) && (((r4) == 0) && true)))), (.agg [(.int .i64 r8), (.int .i64 r9)]), (.bool (!(((r8) == 0) && (((r9) == 0) && true)))), .undef, .undef] H12 (by kernel_rfl) ?_
    refine then_norm ?_
    refine w_cond (t := (!(((r8) == 0) && (((r9) == 0) && true)))) rfl (fun hc => ?_) (fun hc => ?_)
    · replace h := h.1 ((is_not (is_and is_eq (is_and is_eq is_true))).t hc)
      refine w_seq ?_
      refine w_run [0, 0, 1, 0, 1] ?_
      refine t_build true [(.int .i64 0), (.int .i64 0)] [(0, 1, .loc 0), (1, 1, .loc 1)] [(.int .i64 r8), (.int .i64 (-2))] [(.int .i64 r8), (.int .i64 (-2))] H12 (by kernel_rfl) (fill_c (vs := [(.int .i64 r8)]) (size := 1) rfl (by kernel_rfl) (by kernel_rfl) (fill_c (vs := [(.int .i64 (-2))]) (size := 1) rfl (by kernel_rfl) (by kernel_rfl) (by kernel_rfl))) ?_
      refine t_upd true 2 0 [(.int .i64 0), (.int .i64 0)] (.agg [(.int .i64 r8), (.int .i64 (-2))]) [(.int .i64 r8), (.int .i64 (-2))] [(.int .i64 r8), (.int .i64 (-2))] H12 (by kernel_rfl) rfl (all_c rfl (all_c rfl all_n)) ⟨rfl, Nat.le_of_ble_eq_true (by kernel_rfl), rfl⟩ ?_
      refine t_done [a0, b1, (.int .i64 0), (.agg [(.int .i64 r8), (.int .i64 (-2))]), (.agg [(.int .i64 r3), (.int .i64 r4)]), (.bool (!(((r3) == 0) && (((r4) == 0) && true)))), (.agg [(.int .i64 r8), (.int .i64 r9)]), (.bool (!(((r8) == 0) && (((r9) == 0) && true)))), .undef, .undef] H12 (by kernel_rfl) ?_
      refine then_norm ?_
      refine w_ret ?_
      refine then_ret ?_
      exact body_ret (vs := [(.int .i64 0), (.agg [(.int .i64 r8), (.int .i64 (-2))])]) _ (by kernel_rfl) rfl h
    · replace h := h.2 ((is_not (is_and is_eq (is_and is_eq is_true))).f hc)
      refine w_skip ?_
      refine then_norm ?_
      refine w_seq ?_
      refine w_run [0] ?_
      refine t_done [a0, b1, (.int .i64 0), (.agg [(.int .i64 0), (.int .i64 0)]), (.agg [(.int .i64 r3), (.int .i64 r4)]), (.bool (!(((r3) == 0) && (((r4) == 0) && true)))), (.agg [(.int .i64 r8), (.int .i64 r9)]), (.bool (!(((r8) == 0) && (((r9) == 0) && true)))), (.int .i64 0), .undef] H12 (by kernel_rfl) ?_
      refine then_norm ?_
      refine w_seq ?_
      refine w_block ?_
      obtain ⟨J13, k14, h0, h⟩ := h
      refine w_loop (I := fun mI EI HI => ∃ (n16 : Int) (d17 : AV), EI = [a0, b1, (.int .i64 0), (.agg [(.int .i64 0), (.int .i64 0)]), (.agg [(.int .i64 r3), (.int .i64 r4)]), (.bool (!(((r3) == 0) && (((r4) == 0) && true)))), (.agg [(.int .i64 r8), (.int .i64 r9)]), (.bool (!(((r8) == 0) && (((r9) == 0) && true)))), (.int .i64 n16), d17] ∧ H12 = HI ∧ J13 mI n16) ?_ k14 ⟨_, _, rfl, rfl, h0⟩
      clear h0
      rintro m15 EI HI ⟨n16, d17, rfl, rfl, hJ⟩
      replace h := h m15 n16  hJ
      clear hJ
      refine w_seq ?_
      refine w_seq ?_
      refine w_run [0, 0, 1, 0, 1, 0, 0, 0, 0, 0, 3, 3, 0, 0, 3, 3, 2, 0] ?_
      obtain ⟨len18, hl, h⟩ := h
      refine t_len true a0 len18 H12 (by kernel_rfl) hl ?_
      obtain ⟨len19, hl, h⟩ := h
      refine t_len true b1 len19 H12 (by kernel_rfl) hl ?_
      refine t_gd (decide (n16 < (imin (len18 : Int) (len19 : Int)))) true (by kernel_rfl) (fun hc => ?_) (fun hc => ?_)
      · replace h := h.1 (is_dec.t hc)
        obtain ⟨e20, e21, e22, e23, hg24, h⟩ := h
        refine t_idxG false 4 a0 .i64 n16 H12 (by kernel_rfl) hg24 ?_
        refine t_gd true true (by kernel_rfl) (fun _ => ?_) (fun hn => by cases hn)
        refine t_loadG false (some 4) 4 a0 n16 0 (.agg [(.int .i64 e20), (.int .i64 e21), (.int .i64 e22), (.int .i64 e23)]) H12 (by kernel_rfl) hg24 ?_
        refine t_gd true true (by kernel_rfl) (fun _ => ?_) (fun hn => by cases hn)
        obtain ⟨e25, e26, e27, e28, hg29, h⟩ := h
        refine t_idxG false 4 b1 .i64 n16 H12 (by kernel_rfl) hg29 ?_
        refine t_gd true true (by kernel_rfl) (fun _ => ?_) (fun hn => by cases hn)
        refine t_loadG false (some 4) 4 b1 n16 0 (.agg [(.int .i64 e25), (.int .i64 e26), (.int .i64 e27), (.int .i64 e28)]) H12 (by kernel_rfl) hg29 ?_
        refine t_gd true true (by kernel_rfl) (fun _ => ?_) (fun hn => by cases hn)
        refine t_done [a0, b1, (.int .i64 0), (.agg [(.int .i64 0), (.int .i64 0)]), (.agg [(.int .i64 r3), (.int .i64 r4)]), (.bool (!(((r3) == 0) && (((r4) == 0) && true)))), (.agg [(.int .i64 r8), (.int .i64 r9)]), (.bool (!(((r8) == 0) && (((r9) == 0) && true)))), (.int .i64 n16), (.bool (((e20) == e25) && (((e21) == e26) && (((e22) == e27) && (((e23) == e28) && true)))))] H12 (by kernel_rfl) ?_
        refine then_norm ?_
        refine w_cond (t := (((e20) == e25) && (((e21) == e26) && (((e22) == e27) && (((e23) == e28) && true))))) rfl (fun hc => ?_) (fun hc => ?_)
        · replace h := h.1 ((is_and is_eq (is_and is_eq (is_and is_eq (is_and is_eq is_true)))).t hc)
          refine w_skip ?_
          refine then_norm ?_
          refine w_block ?_
          refine w_run [0, 0, 0] ?_
          refine t_done [a0, b1, (.int .i64 0), (.agg [(.int .i64 0), (.int .i64 0)]), (.agg [(.int .i64 r3), (.int .i64 r4)]), (.bool (!(((r3) == 0) && (((r4) == 0) && true)))), (.agg [(.int .i64 r8), (.int .i64 r9)]), (.bool (!(((r8) == 0) && (((r9) == 0) && true)))), (.int .i64 (IntKind.wrap .i64 (n16 + 1))), (.bool (((e20) == e25) && (((e21) == e26) && (((e22) == e27) && (((e23) == e28) && true)))))] H12 (by kernel_rfl) ?_
          refine block_norm ?_
          obtain ⟨m', hm, h⟩ := h
          refine loop_norm ⟨m', hm, _, _, rfl, rfl, h⟩
        · replace h := h.2 ((is_and is_eq (is_and is_eq (is_and is_eq (is_and is_eq is_true)))).f hc)
          refine w_exit ?_
          refine then_exit ?_
          refine loop_exit ?_
          refine block_exit ?_
          refine then_norm ?_
          refine w_seq ?_
          refine w_run [0, 1, 0, 1] ?_
          refine t_build true [(.int .i64 0), (.int .i64 0)] [] [] [(.int .i64 0), (.int .i64 0)] H12 (by kernel_rfl) (by kernel_rfl) ?_
          refine t_upd true 2 0 [(.int .i64 0), (.int .i64 0)] (.agg [(.int .i64 0), (.int .i64 0)]) [(.int .i64 0), (.int .i64 0)] [(.int .i64 0), (.int .i64 0)] H12 (by kernel_rfl) rfl (all_c rfl (all_c rfl all_n)) ⟨rfl, Nat.le_of_ble_eq_true (by kernel_rfl), rfl⟩ ?_
          refine t_done [a0, b1, (.int .i64 n16), (.agg [(.int .i64 0), (.int .i64 0)]), (.agg [(.int .i64 r3), (.int .i64 r4)]), (.bool (!(((r3) == 0) && (((r4) == 0) && true)))), (.agg [(.int .i64 r8), (.int .i64 r9)]), (.bool (!(((r8) == 0) && (((r9) == 0) && true)))), (.int .i64 n16), (.bool (((e20) == e25) && (((e21) == e26) && (((e22) == e27) && (((e23) == e28) && true)))))] H12 (by kernel_rfl) ?_
          refine then_norm ?_
          refine w_ret ?_
          exact body_ret (vs := [(.int .i64 n16), (.agg [(.int .i64 0), (.int .i64 0)])]) _ (by kernel_rfl) rfl h
      · replace h := h.2 (is_dec.f hc)
        refine t_gd false true (by kernel_rfl) (fun hn => by cases hn) (fun _ => ?_)
        refine t_gd false true (by kernel_rfl) (fun hn => by cases hn) (fun _ => ?_)
        refine t_gd false true (by kernel_rfl) (fun hn => by cases hn) (fun _ => ?_)
        refine t_gd false true (by kernel_rfl) (fun hn => by cases hn) (fun _ => ?_)
        refine t_done [a0, b1, (.int .i64 0), (.agg [(.int .i64 0), (.int .i64 0)]), (.agg [(.int .i64 r3), (.int .i64 r4)]), (.bool (!(((r3) == 0) && (((r4) == 0) && true)))), (.agg [(.int .i64 r8), (.int .i64 r9)]), (.bool (!(((r8) == 0) && (((r9) == 0) && true)))), (.int .i64 n16), (.bool false)] H12 (by kernel_rfl) ?_
        refine then_norm ?_
        refine w_cond (t := false) rfl (fun hc => by cases hc) (fun _ => ?_)
        refine w_exit ?_
        refine then_exit ?_
        refine loop_exit ?_
        refine block_exit ?_
        refine then_norm ?_
        refine w_seq ?_
        refine w_run [0, 1, 0, 1] ?_
        refine t_build true [(.int .i64 0), (.int .i64 0)] [] [] [(.int .i64 0), (.int .i64 0)] H12 (by kernel_rfl) (by kernel_rfl) ?_
        refine t_upd true 2 0 [(.int .i64 0), (.int .i64 0)] (.agg [(.int .i64 0), (.int .i64 0)]) [(.int .i64 0), (.int .i64 0)] [(.int .i64 0), (.int .i64 0)] H12 (by kernel_rfl) rfl (all_c rfl (all_c rfl all_n)) ⟨rfl, Nat.le_of_ble_eq_true (by kernel_rfl), rfl⟩ ?_
        refine t_done [a0, b1, (.int .i64 n16), (.agg [(.int .i64 0), (.int .i64 0)]), (.agg [(.int .i64 r3), (.int .i64 r4)]), (.bool (!(((r3) == 0) && (((r4) == 0) && true)))), (.agg [(.int .i64 r8), (.int .i64 r9)]), (.bool (!(((r8) == 0) && (((r9) == 0) && true)))), (.int .i64 n16), (.bool false)] H12 (by kernel_rfl) ?_
        refine then_norm ?_
        refine w_ret ?_
        exact body_ret (vs := [(.int .i64 n16), (.agg [(.int .i64 0), (.int .i64 0)])]) _ (by kernel_rfl) rfl h

def rf_audit_chains : RFunc := ⟨1, 8, [.var 1],
 ((.seq (.ops [⟨.move (.k (.empty)), none, (some 1), true⟩])
 ((.seq (.ops [⟨.move (.k (.empty)), none, (some 6), true⟩])
 ((.seq ((.seq (.ops [⟨.move (.var 0), none, (some 5), true⟩, ⟨.len (.loc 0), none, (some 3), true⟩, ⟨.move (.k (.int .i64 0)), none, (some 2), true⟩])
 (.block 0 (.loop ((.seq (.ops [⟨.bin .lss .no (.var 2) (.var 3), none, (some 4), true⟩])
 ((.seq (.cond (.var 4) (.skip) (.exit 0))
 ((.seq (.block 1 ((.seq (.ops [⟨.indexAddr 4 (.var 5) (.var 2), none, none, true⟩, ⟨.load (some 4) (.loc 0), none, none, true⟩, ⟨.tomb 1 (.k (.agg [.int .i64 0, .int .i64 0, .int .i64 0, .int .i64 0])), none, (some 7), true⟩, ⟨.upd 4 0 (.loc 2) (.loc 1), none, (some 7), true⟩])
 (.ops [⟨.move (.var 6), none, none, true⟩, ⟨.field 0 none (.var 7), none, none, true⟩, ⟨.field 3 none (.var 7), none, none, true⟩, ⟨.buildSlice 1 [.int .i64 0] [(0, 1, (.loc 2))] 1, none, none, true⟩, ⟨.append 1 8 (.loc 0) (.loc 3), none, none, true⟩, ⟨.move (.loc 4), none, (some 6), true⟩]))))
 (.ops [⟨.bin .add .no (.var 2) (.k (.int .i64 1)), none, none, true⟩, ⟨.move (.loc 0), none, (some 2), true⟩])))))))))))
 ((.seq (.ops [⟨.move (.var 6), none, none, true⟩, ⟨.move (.loc 0), none, (some 1), true⟩])
 (.ret))))))))), none⟩
theorem v_audit_chains {F : Nat → Option RFunc} {me : Nat} (hF : F me = some (rf_audit_chains )) {fl : Nat} {H : Heap} {Q : AV → Heap → Prop} (log0 : AV)
  (h : ∃ len1 : Nat, lenA log0 = some len1 ∧ ∃ (J2 : Nat → Int → AV → Heap → Prop) (k3 : Nat), J2 k3 0 .empty H ∧ (∀ (m4 : Nat) (v5 : Int) (out7 : AV) (H9 : Heap), J2 m4 v5 out7 H9 → ((v5 < (len1 : Int)) → ∃ (e10 : Int) (e11 : Int) (e12 : Int) (e13 : Int), getA H9 4 (some 4) log0 v5 0 = some (.agg [(.int .i64 e10), (.int .i64 e11), (.int .i64 e12), (.int .i64 e13)]) ∧ ∀ (H15 : Heap), Dead1 H9 1 H15 → ∀ (b16 : Nat) (H17 : Heap), NewB H15 1 [(.int .i64 e13)] b16 H17 → ∃ (a18 : AV) (H19 : Heap), appA fl true 1 8 H17 out7 (.slice b16 0 1 (some 1)) = some (a18, H19) ∧ ∃ m20 : Nat, m20 < m4 ∧ J2 m20 (IntKind.wrap .i64 (v5 + 1)) a18 H19) ∧ (¬(v5 < (len1 : Int)) → Q out7 H9))) : Ret F fl me [log0] H Q := by
  refine ret_intro hF rfl ?_
  refine w_seq ?_
  refine w_run [0] ?_
  refine t_done [log0, .empty, .undef, .undef, .undef, .undef, .undef, .undef] H (by kernel_rfl) ?_
  refine then_norm ?_
  refine w_seq ?_
  refine w_run [0] ?_
  refine t_done [log0, .empty, .undef, .undef, .undef, .undef, .empty, .undef] H (by kernel_rfl) ?_
  refine then_norm ?_
  refine w_seq ?_
  refine w_seq ?_
  refine w_run [0, 1, 0] ?_
  obtain ⟨len1, hl, h⟩ := h
  refine t_len true log0 len1 H (by kernel_rfl) hl ?_
  refine t_done [log0, .empty, (.int .i64 0), (.int .i64 (len1 : Int)), .undef, log0, .empty, .undef] H (by kernel_rfl) ?_
  refine then_norm ?_
  refine w_block ?_
  obtain ⟨J2, k3, h0, h⟩ := h
  refine w_loop (I := fun mI EI HI => ∃ (v5 : Int) (d6 : AV) (out7 : AV) (d8 : AV), EI = [log0, .empty, (.int .i64 v5), (.int .i64 (len1 : Int)), d6, log0, out7, d8] ∧ J2 mI v5 out7 HI) ?_ k3 ⟨_, _, _, _, rfl, h0⟩
  clear h0
  rintro m4 EI H9 ⟨v5, d6, out7, d8, rfl, hJ⟩
  replace h := h m4 v5 out7 H9 hJ
  clear hJ
  refine w_seq ?_
  refine w_run [0] ?_
  refine t_done [log0, .empty, (.int .i64 v5), (.int .i64 (len1 : Int)), (.bool (decide (v5 < (len1 : Int)))), log0, out7, d8] H9 (by kernel_rfl) ?_
  refine then_norm ?_
  refine w_seq ?_
  refine w_cond (t := (decide (v5 < (len1 : Int)))) rfl (fun hc => ?_) (fun hc => ?_)
  · replace h := h.1 (is_dec.t hc)
    refine w_skip ?_
    refine then_norm ?_
    refine w_seq ?_
    refine w_block ?_
    refine w_seq ?_
    refine w_run [1, 1, 1, 1] ?_
    obtain ⟨e10, e11, e12, e13, hg14, h⟩ := h
    refine t_idxG true 4 log0 .i64 v5 H9 (by kernel_rfl) hg14 ?_
    refine t_loadG true (some 4) 4 log0 v5 0 (.agg [(.int .i64 e10), (.int .i64 e11), (.int .i64 e12), (.int .i64 e13)]) H9 (by kernel_rfl) hg14 ?_
    obtain ⟨H15, hb⟩ : ∃ H', Dead1 H9 1 H' := ⟨_, ⟨rfl⟩⟩
    replace h := h H15 hb
    refine t_tomb true 1 (.agg [(.int .i64 0), (.int .i64 0), (.int .i64 0), (.int .i64 0)]) [(.int .i64 0), (.int .i64 0), (.int .i64 0), (.int .i64 0)] H15 H9 (by kernel_rfl) rfl hb ?_
    refine t_upd true 4 0 [(.int .i64 0), (.int .i64 0), (.int .i64 0), (.int .i64 0)] (.agg [(.int .i64 e10), (.int .i64 e11), (.int .i64 e12), (.int .i64 e13)]) [(.int .i64 e10), (.int .i64 e11), (.int .i64 e12), (.int .i64 e13)] [(.int .i64 e10), (.int .i64 e11), (.int .i64 e12), (.int .i64 e13)] H15 (by kernel_rfl) rfl (all_c rfl (all_c rfl (all_c rfl (all_c rfl all_n)))) ⟨rfl, Nat.le_of_ble_eq_true (by kernel_rfl), rfl⟩ ?_
    refine t_done [log0, .empty, (.int .i64 v5), (.int .i64 (len1 : Int)), (.bool (decide (v5 < (len1 : Int)))), log0, out7, (.agg [(.int .i64 e10), (.int .i64 e11), (.int .i64 e12), (.int .i64 e13)])] H15 (by kernel_rfl) ?_
    refine then_norm ?_
    refine w_run [0, 0, 0, 1, 1, 0] ?_
    obtain ⟨b16, H17, hb⟩ : ∃ b H', NewB H15 1 [(.int .i64 e13)] b H' := ⟨_, _, rfl, rfl⟩
    replace h := h b16 H17 hb
    refine t_bs true 1 [(.int .i64 0)] [(0, 1, .loc 0)] 1 [(.int .i64 e13)] [(.int .i64 e13)] b16 H17 H15 (by kernel_rfl) (fill_c (vs := [(.int .i64 e13)]) (size := 1) rfl (by kernel_rfl) (by kernel_rfl) (by kernel_rfl)) hb ?_
    obtain ⟨a18, H19, ha, h⟩ := h
    refine t_app true 1 8 out7 (.slice b16 0 1 (some 1)) a18 H19 H17 (by kernel_rfl) ha ?_
    refine t_done [log0, .empty, (.int .i64 v5), (.int .i64 (len1 : Int)), (.bool (decide (v5 < (len1 : Int)))), log0, a18, (.agg [(.int .i64 e10), (.int .i64 e11), (.int .i64 e12), (.int .i64 e13)])] H19 (by kernel_rfl) ?_
    refine block_norm ?_
    refine then_norm ?_
    refine w_run [0, 0] ?_
    refine t_done [log0, .empty, (.int .i64 (IntKind.wrap .i64 (v5 + 1))), (.int .i64 (len1 : Int)), (.bool (decide (v5 < (len1 : Int)))), log0, a18, (.agg [(.int .i64 e10), (.int .i64 e11), (.int .i64 e12), (.int .i64 e13)])] H19 (by kernel_rfl) ?_
    obtain ⟨m', hm, h⟩ := h
    refine loop_norm ⟨m', hm, _, _, _, _, rfl, h⟩
  · replace h := h.2 (is_dec.f hc)
    refine w_exit ?_
    refine then_exit ?_
    refine loop_exit ?_
    refine block_exit ?_
    refine then_norm ?_
    refine w_seq ?_
    refine w_run [0, 0] ?_
    refine t_done [log0, out7, (.int .i64 v5), (.int .i64 (len1 : Int)), (.bool (decide (v5 < (len1 : Int)))), log0, out7, d8] H9 (by kernel_rfl) ?_
    refine then_norm ?_
    refine w_ret ?_
    exact body_ret (vs := [out7]) _ (by kernel_rfl) rfl h

def rf_translog_fault (nsigning_IsDigest : Nat) : RFunc := ⟨1, 10, [.part 1 (some 2)],
 ((.seq (.ops [⟨.tomb 1 (.k (.agg [.int .i64 0, .int .i64 0])), none, (some 1), true⟩])
 ((.seq ((.seq (.ops [⟨.move (.var 0), none, none, true⟩, ⟨.len (.loc 0), none, none, true⟩, ⟨.bin .gtr .no (.loc 1) (.k (.int .i64 64)), none, (some 2), true⟩])
 (.cond (.var 2) ((.seq (.ops [⟨.build [.int .i64 0, .int .i64 0] [(0, 1, (.k (.int .i64 2))), (1, 1, (.k (.int .i64 (-1))))], none, none, true⟩, ⟨.upd 2 0 (.var 1) (.loc 0), none, (some 1), true⟩])
 (.ret))) (.skip))))
 ((.seq ((.seq (.ops [⟨.move (.var 0), none, (some 6), true⟩, ⟨.len (.loc 0), none, (some 4), true⟩, ⟨.move (.k (.int .i64 0)), none, (some 3), true⟩])
 (.block 0 (.loop ((.seq (.ops [⟨.bin .lss .no (.var 3) (.var 4), none, (some 5), true⟩])
 ((.seq (.cond (.var 5) (.skip) (.exit 0))
 ((.seq (.block 1 ((.seq (.ops [⟨.move (.var 3), none, none, true⟩, ⟨.indexAddr 1 (.var 6) (.var 3), none, none, true⟩, ⟨.load none (.loc 1), none, none, true⟩, ⟨.move (.loc 0), none, (some 9), true⟩, ⟨.move (.loc 2), none, (some 7), true⟩])
 ((.seq (.ops [⟨.move (.var 7), none, none, true⟩, ⟨.callS nsigning_IsDigest [(.loc 0)], none, none, true⟩, ⟨.un .not (.loc 1), none, (some 8), true⟩])
 (.cond (.var 8) ((.seq (.ops [⟨.move (.var 9), none, none, true⟩, ⟨.build [.int .i64 0, .int .i64 0] [(0, 1, (.k (.int .i64 3))), (1, 1, (.loc 0))], none, none, true⟩, ⟨.upd 2 0 (.var 1) (.loc 1), none, (some 1), true⟩])
 (.ret))) (.skip)))))))
 (.ops [⟨.bin .add .no (.var 3) (.k (.int .i64 1)), none, none, true⟩, ⟨.move (.loc 0), none, (some 3), true⟩])))))))))))
 ((.seq (.ops [⟨.build [.int .i64 0, .int .i64 0] [], none, none, true⟩, ⟨.upd 2 0 (.var 1) (.loc 0), none, (some 1), true⟩])
 (.ret))))))))), none⟩
theorem v_translog_fault {F : Nat → Option RFunc} {me nsigning_IsDigest : Nat} (hF : F me = some (rf_translog_fault nsigning_IsDigest)) {fl : Nat} {H : Heap} {Q : AV → Heap → Prop} (leaves0 : AV)
  (h : ∀ (H1 : Heap), Dead1 H 1 H1 → ∃ len2 : Nat, lenA leaves0 = some len2 ∧ (((len2 : Int) > 64) → Q (.agg [(.int .i64 2), (.int .i64 (-1))]) H1) ∧ (¬((len2 : Int) > 64) → ∃ len3 : Nat, lenA leaves0 = some len3 ∧ ∃ (J4 : Nat → Int → Int → Int → Heap → Prop) (k5 : Nat), J4 k5 0 0 0 H1 ∧ (∀ (m6 : Nat) (v7 : Int) (v8 : Int) (v9 : Int) (H14 : Heap), J4 m6 v7 v8 v9 H14 → ((v9 < (len3 : Int)) → ∃ (e15 : Int), getA H14 1 none leaves0 v9 0 = some (.int .i64 e15) ∧ Ret F fl nsigning_IsDigest [(.int .i64 e15)] H14 (fun v19 H18 => ∃ (r17 : Bool), v19 = (.bool r17) ∧ ((¬(r17 = true)) → Q (.agg [(.int .i64 3), (.int .i64 v9)]) H18) ∧ (¬(¬(r17 = true)) → ∃ m20 : Nat, m20 < m6 ∧ J4 m20 v7 v8 (IntKind.wrap .i64 (v9 + 1)) H18))) ∧ (¬(v9 < (len3 : Int)) → Q (.agg [(.int .i64 0), (.int .i64 0)]) H14)))) : Ret F fl me [leaves0] H Q := by
  refine ret_intro hF rfl ?_
  refine w_seq ?_
  refine w_run [1] ?_
  obtain ⟨H1, hb⟩ : ∃ H', Dead1 H 1 H' := ⟨_, ⟨rfl⟩⟩
  replace h := h H1 hb
  refine t_tomb true 1 (.agg [(.int .i64 0), (.int .i64 0)]) [(.int .i64 0), (.int .i64 0)] H1 H (by kernel_rfl) rfl hb ?_
  refine t_done [leaves0, (.agg [(.int .i64 0), (.int .i64 0)]), .undef, .undef, .undef, .undef, .undef, .undef, .undef, .undef] H1 (by kernel_rfl) ?_
  refine then_norm ?_
  refine w_seq ?_
  refine w_seq ?_
  refine w_run [0, 1, 0] ?_
  obtain ⟨len2, hl, h⟩ := h
  refine t_len true leaves0 len2 H1 (by kernel_rfl) hl ?_
  refine t_done [leaves0, (.agg [(.int .i64 0), (.int .i64 0)]), (.bool (decide ((len2 : Int) > 64))), .undef, .undef, .undef, .undef, .undef, .undef, .undef] H1 (by kernel_rfl) ?_
  refine then_norm ?_
  refine w_cond (t := (decide ((len2 : Int) > 64))) rfl (fun hc => ?_) (fun hc => ?_)
  · replace h := h.1 (is_dec.t hc)
    refine w_seq ?_
    refine w_run [1, 1] ?_
    refine t_build true [(.int .i64 0), (.int .i64 0)] [(0, 1, .loc 0), (1, 1, .loc 1)] [(.int .i64 2), (.int .i64 (-1))] [(.int .i64 2), (.int .i64 (-1))] H1 (by kernel_rfl) (fill_c (vs := [(.int .i64 2)]) (size := 1) rfl (by kernel_rfl) (by kernel_rfl) (fill_c (vs := [(.int .i64 (-1))]) (size := 1) rfl (by kernel_rfl) (by kernel_rfl) (by kernel_rfl))) ?_
    refine t_upd true 2 0 [(.int .i64 0), (.int .i64 0)] (.agg [(.int .i64 2), (.int .i64 (-1))]) [(.int .i64 2), (.int .i64 (-1))] [(.int .i64 2), (.int .i64 (-1))] H1 (by kernel_rfl) rfl (all_c rfl (all_c rfl all_n)) ⟨rfl, Nat.le_of_ble_eq_true (by kernel_rfl), rfl⟩ ?_
    refine t_done [leaves0, (.agg [(.int .i64 2), (.int .i64 (-1))]), (.bool (decide ((len2 : Int) > 64))), .undef, .undef, .undef, .undef, .undef, .undef, .undef] H1 (by kernel_rfl) ?_
    refine then_norm ?_
    refine w_ret ?_
    refine then_ret ?_
    exact body_ret (vs := [(.agg [(.int .i64 2), (.int .i64 (-1))])]) _ (by kernel_rfl) rfl h
  · replace h := h.2 (is_dec.f hc)
    refine w_skip ?_
    refine then_norm ?_
    refine w_seq ?_
    refine w_seq ?_
    refine w_run [0, 1, 0] ?_
    obtain ⟨len3, hl, h⟩ := h
    refine t_len true leaves0 len3 H1 (by kernel_rfl) hl ?_
    refine t_done [leaves0, (.agg [(.int .i64 0), (.int .i64 0)]), (.bool (decide ((len2 : Int) > 64))), (.int .i64 0), (.int .i64 (len3 : Int)), .undef, leaves0, .undef, .undef, .undef] H1 (by kernel_rfl) ?_
    refine then_norm ?_
    refine w_block ?_
    obtain ⟨J4, k5, h0, h⟩ := h
    refine w_loop (I := fun mI EI HI => ∃ (v7 : Int) (v8 : Int) (v9 : Int) (d10 : AV) (d11 : AV) (d12 : AV) (d13 : AV), EI = [leaves0, (.agg [(.int .i64 v7), (.int .i64 v8)]), (.bool (decide ((len2 : Int) > 64))), (.int .i64 v9), (.int .i64 (len3 : Int)), d10, leaves0, d11, d12, d13] ∧ J4 mI v7 v8 v9 HI) ?_ k5 ⟨_, _, _, _, _, _, _, rfl, h0⟩
    clear h0
    rintro m6 EI H14 ⟨v7, v8, v9, d10, d11, d12, d13, rfl, hJ⟩
    replace h := h m6 v7 v8 v9 H14 hJ
    clear hJ
    refine w_seq ?_
    refine w_run [0] ?_
    refine t_done [leaves0, (.agg [(.int .i64 v7), (.int .i64 v8)]), (.bool (decide ((len2 : Int) > 64))), (.int .i64 v9), (.int .i64 (len3 : Int)), (.bool (decide (v9 < (len3 : Int)))), leaves0, d11, d12, d13] H14 (by kernel_rfl) ?_
    refine then_norm ?_
    refine w_seq ?_
    refine w_cond (t := (decide (v9 < (len3 : Int)))) rfl (fun hc => ?_) (fun hc => ?_)
    · replace h := h.1 (is_dec.t hc)
      refine w_skip ?_
      refine then_norm ?_
      refine w_seq ?_
      refine w_block ?_
      refine w_seq ?_
      refine w_run [0, 1, 1, 0, 0] ?_
      obtain ⟨e15, hg16, h⟩ := h
      refine t_idxG true 1 leaves0 .i64 v9 H14 (by kernel_rfl) hg16 ?_
      refine t_loadG true none 1 leaves0 v9 0 (.int .i64 e15) H14 (by kernel_rfl) hg16 ?_
      refine t_done [leaves0, (.agg [(.int .i64 v7), (.int .i64 v8)]), (.bool (decide ((len2 : Int) > 64))), (.int .i64 v9), (.int .i64 (len3 : Int)), (.bool (decide (v9 < (len3 : Int)))), leaves0, (.int .i64 e15), d12, (.int .i64 v9)] H14 (by kernel_rfl) ?_
      refine then_norm ?_
      refine w_seq ?_
      refine w_run [0, 1, 0] ?_
      refine t_call true nsigning_IsDigest [(.int .i64 e15)] H14 (by kernel_rfl) h ?_
      clear h
      rintro _ H18 ⟨r17, rfl, h⟩
      refine t_done [leaves0, (.agg [(.int .i64 v7), (.int .i64 v8)]), (.bool (decide ((len2 : Int) > 64))), (.int .i64 v9), (.int .i64 (len3 : Int)), (.bool (decide (v9 < (len3 : Int)))), leaves0, (.int .i64 e15), (.bool (!r17)), (.int .i64 v9)] H18 (by kernel_rfl) ?_
      refine then_norm ?_
      refine w_cond (t := (!r17)) rfl (fun hc => ?_) (fun hc => ?_)
      · replace h := h.1 ((is_not is_raw).t hc)
        refine w_seq ?_
        refine w_run [0, 1, 1] ?_
        refine t_build true [(.int .i64 0), (.int .i64 0)] [(0, 1, .loc 0), (1, 1, .loc 1)] [(.int .i64 3), (.int .i64 v9)] [(.int .i64 3), (.int .i64 v9)] H18 (by kernel_rfl) (fill_c (vs := [(.int .i64 3)]) (size := 1) rfl (by kernel_rfl) (by kernel_rfl) (fill_c (vs := [(.int .i64 v9)]) (size := 1) rfl (by kernel_rfl) (by kernel_rfl) (by kernel_rfl))) ?_
        refine t_upd true 2 0 [(.int .i64 v7), (.int .i64 v8)] (.agg [(.int .i64 3), (.int .i64 v9)]) [(.int .i64 3), (.int .i64 v9)] [(.int .i64 3), (.int .i64 v9)] H18 (by kernel_rfl) rfl (all_c rfl (all_c rfl all_n)) ⟨rfl, Nat.le_of_ble_eq_true (by kernel_rfl), rfl⟩ ?_
        refine t_done [leaves0, (.agg [(.int .i64 3), (.int .i64 v9)]), (.bool (decide ((len2 : Int) > 64))), (.int .i64 v9), (.int .i64 (len3 : Int)), (.bool (decide (v9 < (len3 : Int)))), leaves0, (.int .i64 e15), (.bool (!r17)), (.int .i64 v9)] H18 (by kernel_rfl) ?_
        refine then_norm ?_
        refine w_ret ?_
        refine block_ret ?_
        refine then_ret ?_
        refine loop_ret ?_
        refine block_ret ?_
        refine then_ret ?_
        exact body_ret (vs := [(.agg [(.int .i64 3), (.int .i64 v9)])]) _ (by kernel_rfl) rfl h
      · replace h := h.2 ((is_not is_raw).f hc)
        refine w_skip ?_
        refine block_norm ?_
        refine then_norm ?_
        refine w_run [0, 0] ?_
        refine t_done [leaves0, (.agg [(.int .i64 v7), (.int .i64 v8)]), (.bool (decide ((len2 : Int) > 64))), (.int .i64 (IntKind.wrap .i64 (v9 + 1))), (.int .i64 (len3 : Int)), (.bool (decide (v9 < (len3 : Int)))), leaves0, (.int .i64 e15), (.bool (!r17)), (.int .i64 v9)] H18 (by kernel_rfl) ?_
        obtain ⟨m', hm, h⟩ := h
        refine loop_norm ⟨m', hm, _, _, _, _, _, _, _, rfl, h⟩
    · replace h := h.2 (is_dec.f hc)
      refine w_exit ?_
      refine then_exit ?_
      refine loop_exit ?_
      refine block_exit ?_
      refine then_norm ?_
      refine w_seq ?_
      refine w_run [1, 1] ?_
      refine t_build true [(.int .i64 0), (.int .i64 0)] [] [] [(.int .i64 0), (.int .i64 0)] H14 (by kernel_rfl) (by kernel_rfl) ?_
      refine t_upd true 2 0 [(.int .i64 v7), (.int .i64 v8)] (.agg [(.int .i64 0), (.int .i64 0)]) [(.int .i64 0), (.int .i64 0)] [(.int .i64 0), (.int .i64 0)] H14 (by kernel_rfl) rfl (all_c rfl (all_c rfl all_n)) ⟨rfl, Nat.le_of_ble_eq_true (by kernel_rfl), rfl⟩ ?_
      refine t_done [leaves0, (.agg [(.int .i64 0), (.int .i64 0)]), (.bool (decide ((len2 : Int) > 64))), (.int .i64 v9), (.int .i64 (len3 : Int)), (.bool (decide (v9 < (len3 : Int)))), leaves0, d11, d12, d13] H14 (by kernel_rfl) ?_
      refine then_norm ?_
      refine w_ret ?_
      exact body_ret (vs := [(.agg [(.int .i64 0), (.int .i64 0)])]) _ (by kernel_rfl) rfl h

def rf_translog_root (ntranslog_split ntranslog_root ntranslog_pair : Nat) : RFunc := ⟨1, 6, [.var 1],
 ((.seq (.ops [⟨.move (.k (.int .i64 0)), none, (some 1), true⟩])
 ((.seq (.ops [⟨.move (.var 0), none, none, true⟩, ⟨.len (.loc 0), none, none, true⟩, ⟨.move (.loc 1), none, (some 2), true⟩])
 ((.seq (.ops [⟨.move (.var 2), none, (some 3), true⟩])
 (.block 0 ((.seq (.ops [⟨.bin .eql .no (.var 3) (.k (.int .i64 0)), none, none, true⟩, ⟨.move (.loc 0), none, (some 4), true⟩])
 (.cond (.var 4) ((.seq (.ops [⟨.move (.k (.int .i64 0)), none, (some 1), true⟩])
 (.ret))) ((.seq (.ops [⟨.bin .eql .no (.var 3) (.k (.int .i64 1)), none, none, true⟩, ⟨.move (.loc 0), none, (some 5), true⟩])
 (.cond (.var 5) ((.seq (.ops [⟨.move (.var 0), none, none, true⟩, ⟨.indexAddr 1 (.loc 0) (.k (.int .i64 0)), none, none, true⟩, ⟨.load none (.loc 1), none, none, true⟩, ⟨.move (.loc 2), none, (some 1), true⟩])
 (.ret))) ((.seq (.ops [⟨.move (.var 0), none, none, true⟩, ⟨.move (.var 2), none, none, true⟩, ⟨.callS ntranslog_split [(.loc 1)], none, none, true⟩, ⟨.slice 1 (.loc 0) none (some (.loc 2)) none, none, none, true⟩, ⟨.callS ntranslog_root [(.loc 3)], none, none, true⟩, ⟨.move (.var 0), none, none, true⟩, ⟨.move (.var 2), none, none, true⟩, ⟨.callS ntranslog_split [(.loc 6)], none, none, true⟩, ⟨.slice 1 (.loc 5) (some (.loc 7)) none none, none, none, true⟩, ⟨.callS ntranslog_root [(.loc 8)], none, none, true⟩, ⟨.callS ntranslog_pair [(.loc 4), (.loc 9)], none, none, true⟩, ⟨.move (.loc 10), none, (some 1), true⟩])
 (.ret)))))))))))))))), none⟩
theorem v_translog_root {F : Nat → Option RFunc} {me ntranslog_split ntranslog_root ntranslog_pair : Nat} (hF : F me = some (rf_translog_root ntranslog_split ntranslog_root ntranslog_pair)) {fl : Nat} {H : Heap} {Q : AV → Heap → Prop} (leaves0 : AV)
  (h : ∃ len1 : Nat, lenA leaves0 = some len1 ∧ (((len1 : Int) = 0) → Q (.int .i64 0) H) ∧ (¬((len1 : Int) = 0) → (((len1 : Int) = 1) → ∃ (e2 : Int), getA H 1 none leaves0 0 0 = some (.int .i64 e2) ∧ Q (.int .i64 e2) H) ∧ (¬((len1 : Int) = 1) → Ret F fl ntranslog_split [(.int .i64 (len1 : Int))] H (fun v6 H5 => ∃ (r4 : Int), v6 = (.int .i64 r4) ∧ ∃ s7 : AV, rslice H5 1 leaves0 none (some (.int .i64 r4)) none = some s7 ∧ Ret F fl ntranslog_root [s7] H5 (fun v10 H9 => ∃ (r8 : Int), v10 = (.int .i64 r8) ∧ Ret F fl ntranslog_split [(.int .i64 (len1 : Int))] H9 (fun v13 H12 => ∃ (r11 : Int), v13 = (.int .i64 r11) ∧ ∃ s14 : AV, rslice H12 1 leaves0 (some (.int .i64 r11)) none none = some s14 ∧ Ret F fl ntranslog_root [s14] H12 (fun v17 H16 => ∃ (r15 : Int), v17 = (.int .i64 r15) ∧ Ret F fl ntranslog_pair [(.int .i64 r8), (.int .i64 r15)] H16 (fun v20 H19 => ∃ (r18 : Int), v20 = (.int .i64 r18) ∧ Q (.int .i64 r18) H19)))))))) : Ret F fl me [leaves0] H Q := by
  refine ret_intro hF rfl ?_
  refine w_seq ?_
  refine w_run [0] ?_
  refine t_done [leaves0, (.int .i64 0), .undef, .undef, .undef, .undef] H (by kernel_rfl) ?_
  refine then_norm ?_
  refine w_seq ?_
  refine w_run [0, 1, 0] ?_
  obtain ⟨len1, hl, h⟩ := h
  refine t_len true leaves0 len1 H (by kernel_rfl) hl ?_
  refine t_done [leaves0, (.int .i64 0), (.int .i64 (len1 : Int)), .undef, .undef, .undef] H (by kernel_rfl) ?_
  refine then_norm ?_
  refine w_seq ?_
  refine w_run [0] ?_
  refine t_done [leaves0, (.int .i64 0), (.int .i64 (len1 : Int)), (.int .i64 (len1 : Int)), .undef, .undef] H (by kernel_rfl) ?_
  refine then_norm ?_
  refine w_block ?_
  refine w_seq ?_
  refine w_run [0, 0] ?_
  refine t_done [leaves0, (.int .i64 0), (.int .i64 (len1 : Int)), (.int .i64 (len1 : Int)), (.bool (((len1 : Int)) == 0)), .undef] H (by kernel_rfl) ?_
  refine then_norm ?_
  refine w_cond (t := (((len1 : Int)) == 0)) rfl (fun hc => ?_) (fun hc => ?_)
  · replace h := h.1 (is_eq.t hc)
    refine w_seq ?_
    refine w_run [0] ?_
    refine t_done [leaves0, (.int .i64 0), (.int .i64 (len1 : Int)), (.int .i64 (len1 : Int)), (.bool (((len1 : Int)) == 0)), .undef] H (by kernel_rfl) ?_
    refine then_norm ?_
    refine w_ret ?_
    refine block_ret ?_
    exact body_ret (vs := [(.int .i64 0)]) _ (by kernel_rfl) rfl h
  · replace h := h.2 (is_eq.f hc)
    refine w_seq ?_
    refine w_run [0, 0] ?_
    refine t_done [leaves0, (.int .i64 0), (.int .i64 (len1 : Int)), (.int .i64 (len1 : Int)), (.bool (((len1 : Int)) == 0)), (.bool (((len1 : Int)) == 1))] H (by kernel_rfl) ?_
    refine then_norm ?_
    refine w_cond (t := (((len1 : Int)) == 1)) rfl (fun hc => ?_) (fun hc => ?_)
    · replace h := h.1 (is_eq.t hc)
      refine w_seq ?_
      refine w_run [0, 1, 1, 0] ?_
      obtain ⟨e2, hg3, h⟩ := h
      refine t_idxG true 1 leaves0 .i64 0 H (by kernel_rfl) hg3 ?_
      refine t_loadG true none 1 leaves0 0 0 (.int .i64 e2) H (by kernel_rfl) hg3 ?_
      refine t_done [leaves0, (.int .i64 e2), (.int .i64 (len1 : Int)), (.int .i64 (len1 : Int)), (.bool (((len1 : Int)) == 0)), (.bool (((len1 : Int)) == 1))] H (by kernel_rfl) ?_
      refine then_norm ?_
      refine w_ret ?_
      refine block_ret ?_
      exact body_ret (vs := [(.int .i64 e2)]) _ (by kernel_rfl) rfl h
    · replace h := h.2 (is_eq.f hc)
      refine w_seq ?_
      refine w_run [0, 0, 1, 1, 1, 0, 0, 1, 1, 1, 1, 0] ?_
      refine t_call true ntranslog_split [(.int .i64 (len1 : Int))] H (by kernel_rfl) h ?_
      clear h
      rintro _ H5 ⟨r4, rfl, h⟩
      obtain ⟨s7, hs, h⟩ := h
      refine t_slcH true 1 leaves0 (.int .i64 r4) s7 H5 (by kernel_rfl) hs ?_
      refine t_call true ntranslog_root [s7] H5 (by kernel_rfl) h ?_
      clear h
      rintro _ H9 ⟨r8, rfl, h⟩
      refine t_call true ntranslog_split [(.int .i64 (len1 : Int))] H9 (by kernel_rfl) h ?_
      clear h
      rintro _ H12 ⟨r11, rfl, h⟩
      obtain ⟨s14, hs, h⟩ := h
      refine t_slcL true 1 leaves0 (.int .i64 r11) s14 H12 (by kernel_rfl) hs ?_
      refine t_call true ntranslog_root [s14] H12 (by kernel_rfl) h ?_
      clear h
      rintro _ H16 ⟨r15, rfl, h⟩
      refine t_call true ntranslog_pair [(.int .i64 r8), (.int .i64 r15)] H16 (by kernel_rfl) h ?_
      clear h
      rintro _ H19 ⟨r18, rfl, h⟩
      refine t_done [leaves0, (.int .i64 r18), (.int .i64 (len1 : Int)), (.int .i64 (len1 : Int)), (.bool (((len1 : Int)) == 0)), (.bool (((len1 : Int)) == 1))] H19 (by kernel_rfl) ?_
      refine then_norm ?_
      refine w_ret ?_
      refine block_ret ?_
      exact body_ret (vs := [(.int .i64 r18)]) _ (by kernel_rfl) rfl h

def rf_translog_split (nmathbits_Len : Nat) : RFunc := ⟨1, 2, [.var 1],
 ((.seq (.ops [⟨.move (.k (.int .i64 0)), none, (some 1), true⟩])
 ((.seq (.ops [⟨.move (.var 0), none, none, true⟩, ⟨.bin .sub .no (.loc 0) (.k (.int .i64 1)), none, none, true⟩, ⟨.convInt .u64 (.loc 1), none, none, true⟩, ⟨.callS nmathbits_Len [(.loc 2)], none, none, true⟩, ⟨.bin .sub .no (.loc 3) (.k (.int .i64 1)), none, none, true⟩, ⟨.bin .shl .no (.k (.int .i64 1)) (.loc 4), none, none, true⟩, ⟨.move (.loc 5), none, (some 1), true⟩])
 (.ret))))), none⟩
theorem v_translog_split {F : Nat → Option RFunc} {me nmathbits_Len : Nat} (hF : F me = some (rf_translog_split nmathbits_Len)) {fl : Nat} {H : Heap} {Q : AV → Heap → Prop} (n0 : Int)
  (h : Ret F fl nmathbits_Len [(.int .u64 (IntKind.wrap .u64 ((IntKind.wrap .i64 (n0 - 1)))))] H (fun v3 H2 => ∃ (r1 : Int), v3 = (.int .i64 r1) ∧ 0 ≤ (IntKind.wrap .i64 (r1 - 1)) ∧ Q (.int .i64 (IntKind.wrap .i64 (1 * 2 ^ (Min.min (Int.toNat (IntKind.wrap .i64 (r1 - 1))) (IntKind.bits .i64))))) H2)) : Ret F fl me [(.int .i64 n0)] H Q := by
  refine ret_intro hF rfl ?_
  refine w_seq ?_
  refine w_run [0] ?_
  refine t_done [(.int .i64 n0), (.int .i64 0)] H (by kernel_rfl) ?_
  refine then_norm ?_
  refine w_seq ?_
  refine w_run [0, 0, 0, 1, 0, 1, 0] ?_
  refine t_call true nmathbits_Len [(.int .u64 (IntKind.wrap .u64 ((IntKind.wrap .i64 (n0 - 1)))))] H (by kernel_rfl) h ?_
  clear h
  rintro _ H2 ⟨r1, rfl, h⟩
  obtain ⟨hq, h⟩ := h
  refine t_shl true .no .i64 .i64 1 (IntKind.wrap .i64 (r1 - 1)) H2 (by kernel_rfl) hq ?_
  refine t_done [(.int .i64 n0), (.int .i64 (IntKind.wrap .i64 (1 * 2 ^ (Min.min (Int.toNat (IntKind.wrap .i64 (r1 - 1))) (IntKind.bits .i64)))))] H2 (by kernel_rfl) ?_
  refine then_norm ?_
  refine w_ret ?_
  exact body_ret (vs := [(.int .i64 (IntKind.wrap .i64 (1 * 2 ^ (Min.min (Int.toNat (IntKind.wrap .i64 (r1 - 1))) (IntKind.bits .i64)))))]) _ (by kernel_rfl) rfl h

def rf_translog_Root (ntranslog_fault ntranslog_root : Nat) : RFunc := ⟨1, 5, [.var 1, .part 2 (some 2)],
 ((.seq (.ops [⟨.move (.k (.int .i64 0)), none, (some 1), true⟩, ⟨.tomb 1 (.k (.agg [.int .i64 0, .int .i64 0])), none, (some 2), true⟩])
 ((.seq ((.seq (.ops [⟨.move (.var 0), none, none, true⟩, ⟨.callS ntranslog_fault [(.loc 0)], none, none, true⟩, ⟨.tomb 1 (.k (.agg [.int .i64 0, .int .i64 0])), none, (some 3), true⟩, ⟨.upd 2 0 (.loc 2) (.loc 1), none, (some 3), true⟩])
 ((.seq (.ops [⟨.field 0 (some 2) (.var 3), none, none, true⟩, ⟨.build [.int .i64 0, .int .i64 0] [], none, none, true⟩, ⟨.bin .neq (.agg [.int, .int]) (.loc 0) (.loc 1), none, (some 4), true⟩])
 (.cond (.var 4) ((.seq (.ops [⟨.field 0 (some 2) (.var 3), none, none, true⟩, ⟨.move (.k (.int .i64 0)), none, (some 1), false⟩, ⟨.upd 2 0 (.var 2) (.loc 0), none, (some 2), true⟩])
 (.ret))) (.skip))))))
 ((.seq (.ops [⟨.move (.var 0), none, none, true⟩, ⟨.callS ntranslog_root [(.loc 0)], none, none, true⟩, ⟨.build [.int .i64 0, .int .i64 0] [], none, none, true⟩, ⟨.move (.loc 1), none, (some 1), true⟩, ⟨.upd 2 0 (.var 2) (.loc 2), none, (some 2), true⟩])
 (.ret))))))), none⟩
theorem v_translog_Root {F : Nat → Option RFunc} {me ntranslog_fault ntranslog_root : Nat} (hF : F me = some (rf_translog_Root ntranslog_fault ntranslog_root)) {fl : Nat} {H : Heap} {Q : AV → Heap → Prop} (leaves0 : AV)
  (h : ∀ (H1 : Heap), Dead1 H 1 H1 → Ret F fl ntranslog_fault [leaves0] H1 (fun v5 H4 => ∃ (r2 : Int) (r3 : Int), v5 = (.agg [(.int .i64 r2), (.int .i64 r3)]) ∧ ∀ (H6 : Heap), Dead1 H4 1 H6 → ((¬(((r2 = 0) ∧ (((r3 = 0) ∧ (True)))))) → Q (.tuple [(.int .i64 0), (.agg [(.int .i64 r2), (.int .i64 r3)])]) H6) ∧ (¬(¬(((r2 = 0) ∧ (((r3 = 0) ∧ (True)))))) → Ret F fl ntranslog_root [leaves0] H6 (fun v9 H8 => ∃ (r7 : Int), v9 = (.int .i64 r7) ∧ Q (.tuple [(.int .i64 r7), (.agg [(.int .i64 0), (.int .i64 0)])]) H8)))) : Ret F fl me [leaves0] H Q := by
  refine ret_intro hF rfl ?_
  refine w_seq ?_
  refine w_run [0, 1] ?_
  obtain ⟨H1, hb⟩ : ∃ H', Dead1 H 1 H' := ⟨_, ⟨rfl⟩⟩
  replace h := h H1 hb
  refine t_tomb true 1 (.agg [(.int .i64 0), (.int .i64 0)]) [(.int .i64 0), (.int .i64 0)] H1 H (by kernel_rfl) rfl hb ?_
  refine t_done [leaves0, (.int .i64 0), (.agg [(.int .i64 0), (.int .i64 0)]), .undef, .undef] H1 (by kernel_rfl) ?_
  refine then_norm ?_
  refine w_seq ?_
  refine w_seq ?_
  refine w_run [0, 1, 1, 1] ?_
  refine t_call true ntranslog_fault [leaves0] H1 (by kernel_rfl) h ?_
  clear h
  rintro _ H4 ⟨r2, r3, rfl, h⟩
  obtain ⟨H6, hb⟩ : ∃ H', Dead1 H4 1 H' := ⟨_, ⟨rfl⟩⟩
  replace h := h H6 hb
  refine t_tomb true 1 (.agg [(.int .i64 0), (.int .i64 0)]) [(.int .i64 0), (.int .i64 0)] H6 H4 (by kernel_rfl) rfl hb ?_
  refine t_upd true 2 0 [(.int .i64 0), (.int .i64 0)] (.agg [(.int .i64 r2), (.int .i64 r3)]) [(.int .i64 r2), (.int .i64 r3)] [(.int .i64 r2), (.int .i64 r3)] H6 (by kernel_rfl) rfl (all_c rfl (all_c rfl all_n)) ⟨rfl, Nat.le_of_ble_eq_true (by kernel_rfl), rfl⟩ ?_
  refine t_done [leaves0, (.int .i64 0), (.agg [(.int .i64 0), (.int .i64 0)]), (.agg [(.int .i64 r2), (.int .i64 r3)]), .undef] H6 (by kernel_rfl) ?_
  refine then_norm ?_
  refine w_seq ?_
  refine w_run [0, 1, 0] ?_
  refine t_build true [(.int .i64 0), (.int .i64 0)] [] [] [(.int .i64 0), (.int .i64 0)] H6 (by kernel_rfl) (by kernel_rfl) ?_
  refine t_done [leaves0, (.int .i64 0), (.agg [(.int .i64 0), (.int .i64 0)]), (.agg [(.int .i64 r2), (.int .i64 r3)]), (.bool (!(((r2) == 0) && (((r3) == 0) && true))))] H6 (by kernel_rfl) ?_
  refine then_norm ?_
  refine w_cond (t := (!(((r2) == 0) && (((r3) == 0) && true)))) rfl (fun hc => ?_) (fun hc => ?_)
  · replace h := h.1 ((is_not (is_and is_eq (is_and is_eq is_true))).t hc)
    refine w_seq ?_
    refine w_run [0, 0, 1] ?_
    refine t_upd true 2 0 [(.int .i64 0), (.int .i64 0)] (.agg [(.int .i64 r2), (.int .i64 r3)]) [(.int .i64 r2), (.int .i64 r3)] [(.int .i64 r2), (.int .i64 r3)] H6 (by kernel_rfl) rfl (all_c rfl (all_c rfl all_n)) ⟨rfl, Nat.le_of_ble_eq_true (by kernel_rfl), rfl⟩ ?_
    refine t_done [leaves0, (.int .i64 0), (.agg [(.int .i64 r2), (.int .i64 r3)]), (.agg [(.int .i64 r2), (.int .i64 r3)]), (.bool (!(((r2) == 0) && (((r3) == 0) && true))))] H6 (by kernel_rfl) ?_
    refine then_norm ?_
    refine w_ret ?_
    refine then_ret ?_
    exact body_ret (vs := [(.int .i64 0), (.agg [(.int .i64 r2), (.int .i64 r3)])]) _ (by kernel_rfl) rfl h
  · replace h := h.2 ((is_not (is_and is_eq (is_and is_eq is_true))).f hc)
    refine w_skip ?_
    refine then_norm ?_
    refine w_seq ?_
    refine w_run [0, 1, 1, 0, 1] ?_
    refine t_call true ntranslog_root [leaves0] H6 (by kernel_rfl) h ?_
    clear h
    rintro _ H8 ⟨r7, rfl, h⟩
    refine t_build true [(.int .i64 0), (.int .i64 0)] [] [] [(.int .i64 0), (.int .i64 0)] H8 (by kernel_rfl) (by kernel_rfl) ?_
    refine t_upd true 2 0 [(.int .i64 0), (.int .i64 0)] (.agg [(.int .i64 0), (.int .i64 0)]) [(.int .i64 0), (.int .i64 0)] [(.int .i64 0), (.int .i64 0)] H8 (by kernel_rfl) rfl (all_c rfl (all_c rfl all_n)) ⟨rfl, Nat.le_of_ble_eq_true (by kernel_rfl), rfl⟩ ?_
    refine t_done [leaves0, (.int .i64 r7), (.agg [(.int .i64 0), (.int .i64 0)]), (.agg [(.int .i64 r2), (.int .i64 r3)]), (.bool (!(((r2) == 0) && (((r3) == 0) && true))))] H8 (by kernel_rfl) ?_
    refine then_norm ?_
    refine w_ret ?_
    exact body_ret (vs := [(.int .i64 r7), (.agg [(.int .i64 0), (.int .i64 0)])]) _ (by kernel_rfl) rfl h

def rf_translog_reader_done : RFunc := ⟨1, 2, [.var 1],
 ((.seq (.ops [⟨.move (.k (.bool false)), none, (some 1), true⟩])
 ((.seq (.ops [⟨.move (.var 0), none, none, true⟩, ⟨.nilCheck (.loc 0), none, none, true⟩, ⟨.fieldAddr 1 (.loc 1), none, none, true⟩, ⟨.load none (.loc 2), none, none, true⟩, ⟨.move (.loc 3), none, none, true⟩, ⟨.move (.var 0), none, none, true⟩, ⟨.nilCheck (.loc 5), (some (4, true)), none, true⟩, ⟨.fieldAddr 0 (.loc 6), (some (4, true)), none, true⟩, ⟨.load none (.loc 7), (some (4, true)), none, true⟩, ⟨.len (.loc 8), (some (4, true)), none, true⟩, ⟨.bin .eql .no (.loc 9) (.k (.int .i64 0)), (some (4, true)), none, true⟩, ⟨.pick (.loc 4) (.loc 10) (.k (.bool false)), none, none, true⟩, ⟨.move (.loc 11), none, (some 1), true⟩])
 (.ret))))), none⟩
theorem v_translog_reader_done {F : Nat → Option RFunc} {me : Nat} (hF : F me = some (rf_translog_reader_done )) {fl : Nat} {H : Heap} {Q : AV → Heap → Prop} (rb0 : Nat) (ro1 : Nat)
  (h : ∃ (e2 : Bool), rload H none rb0 (ro1 + 1) = some (.bool e2) ∧ ((e2 = true) → ∃ (e3 : AV), rload H none rb0 ro1 = some e3 ∧ ∃ len4 : Nat, lenA e3 = some len4 ∧ Q (.bool (((len4 : Int)) == 0)) H) ∧ (¬(e2 = true) → Q (.bool false) H)) : Ret F fl me [(.ptr rb0 ro1)] H Q := by
  refine ret_intro hF rfl ?_
  refine w_seq ?_
  refine w_run [0] ?_
  refine t_done [(.ptr rb0 ro1), (.bool false)] H (by kernel_rfl) ?_
  refine then_norm ?_
  refine w_seq ?_
  refine w_run [0, 1, 1, 1, 0, 0, 3, 3, 3, 3, 2, 0, 0] ?_
  refine t_ptr true rb0 ro1 H (by kernel_rfl) ?_
  refine t_op true (.fieldAddr 1 (.loc 0)) [.ptr rb0 ro1] H (.ptr rb0 (ro1 + 1)) H (by kernel_rfl) rfl ?_
  obtain ⟨e2, hl, h⟩ := h
  refine t_load true none rb0 (ro1 + 1) (.bool e2) H (by kernel_rfl) hl ?_
  refine t_gd e2 true (by kernel_rfl) (fun hc => ?_) (fun hc => ?_)
  · replace h := h.1 (is_raw.t hc)
    refine t_ptr true rb0 ro1 H (by kernel_rfl) ?_
    refine t_gd true true (by kernel_rfl) (fun _ => ?_) (fun hn => by cases hn)
    refine t_op true (.fieldAddr 0 (.loc 0)) [.ptr rb0 ro1] H (.ptr rb0 ro1) H (by kernel_rfl) rfl ?_
    refine t_gd true true (by kernel_rfl) (fun _ => ?_) (fun hn => by cases hn)
    obtain ⟨e3, hl, h⟩ := h
    refine t_load true none rb0 ro1 e3 H (by kernel_rfl) hl ?_
    refine t_gd true true (by kernel_rfl) (fun _ => ?_) (fun hn => by cases hn)
    obtain ⟨len4, hl, h⟩ := h
    refine t_len true e3 len4 H (by kernel_rfl) hl ?_
    refine t_gd true true (by kernel_rfl) (fun _ => ?_) (fun hn => by cases hn)
    refine t_done [(.ptr rb0 ro1), (.bool (((len4 : Int)) == 0))] H (by kernel_rfl) ?_
    refine then_norm ?_
    refine w_ret ?_
    exact body_ret (vs := [(.bool (((len4 : Int)) == 0))]) _ (by kernel_rfl) rfl h
  · replace h := h.2 (is_raw.f hc)
    refine t_gd false true (by kernel_rfl) (fun hn => by cases hn) (fun _ => ?_)
    refine t_gd false true (by kernel_rfl) (fun hn => by cases hn) (fun _ => ?_)
    refine t_gd false true (by kernel_rfl) (fun hn => by cases hn) (fun _ => ?_)
    refine t_gd false true (by kernel_rfl) (fun hn => by cases hn) (fun _ => ?_)
    refine t_done [(.ptr rb0 ro1), (.bool false)] H (by kernel_rfl) ?_
    refine then_norm ?_
    refine w_ret ?_
    exact body_ret (vs := [(.bool false)]) _ (by kernel_rfl) rfl h

def rf_translog_pair (ndigest_Pair : Nat) : RFunc := ⟨2, 4, [.var 2],
 ((.seq (.ops [⟨.move (.k (.int .i64 0)), none, (some 2), true⟩])
 ((.seq (.ops [⟨.move (.var 0), none, none, true⟩, ⟨.move (.var 1), none, none, true⟩, ⟨.callS ndigest_Pair [(.loc 0), (.loc 1)], none, none, true⟩, ⟨.move (.loc 2), none, none, true⟩, ⟨.extract (.loc 3) 0, none, none, true⟩, ⟨.extract (.loc 3) 1, none, none, true⟩, ⟨.alloc 1 [.int .i64 0, .int .i64 0], none, none, true⟩, ⟨.move (.loc 4), none, (some 3), true⟩, ⟨.store 2 (.loc 6) (.loc 5) [], none, none, true⟩])
 ((.seq (.ops [⟨.move (.var 3), none, none, true⟩, ⟨.move (.loc 0), none, (some 2), true⟩])
 (.ret))))))), none⟩
theorem v_translog_pair {F : Nat → Option RFunc} {me ndigest_Pair : Nat} (hF : F me = some (rf_translog_pair ndigest_Pair)) {fl : Nat} {H : Heap} {Q : AV → Heap → Prop} (a0 : Int) (b1 : Int)
  (h : Ret F fl ndigest_Pair [(.int .i64 a0), (.int .i64 b1)] H (fun v6 H5 => ∃ (r2 : Int) (r3 : Int) (r4 : Int), v6 = (.tuple [(.int .i64 r2), (.agg [(.int .i64 r3), (.int .i64 r4)])]) ∧ ∀ (b7 : Nat) (H8 : Heap), NewB H5 1 [(.int .i64 0), (.int .i64 0)] b7 H8 → ∃ H9 : Heap, putA fl H8 b7 0 2 (.agg [(.int .i64 r3), (.int .i64 r4)]) = some H9 ∧ Q (.int .i64 r2) H9)) : Ret F fl me [(.int .i64 a0), (.int .i64 b1)] H Q := by
  refine ret_intro hF rfl ?_
  refine w_seq ?_
  refine w_run [0] ?_
  refine t_done [(.int .i64 a0), (.int .i64 b1), (.int .i64 0), .undef] H (by kernel_rfl) ?_
  refine then_norm ?_
  refine w_seq ?_
  refine w_run [0, 0, 1, 0, 0, 0, 1, 0, 1] ?_
  refine t_call true ndigest_Pair [(.int .i64 a0), (.int .i64 b1)] H (by kernel_rfl) h ?_
  clear h
  rintro _ H5 ⟨r2, r3, r4, rfl, h⟩
  obtain ⟨b7, H8, hb⟩ : ∃ b H', NewB H5 1 [(.int .i64 0), (.int .i64 0)] b H' := ⟨_, _, rfl, rfl⟩
  replace h := h b7 H8 hb
  refine t_alloc true 1 [(.int .i64 0), (.int .i64 0)] b7 H8 H5 (by kernel_rfl) hb ?_
  obtain ⟨H9, hp, h⟩ := h
  refine t_store true 2 b7 0 (.agg [(.int .i64 r3), (.int .i64 r4)]) H9 H8 (by kernel_rfl) hp ?_
  refine t_done [(.int .i64 a0), (.int .i64 b1), (.int .i64 0), (.int .i64 r2)] H9 (by kernel_rfl) ?_
  refine then_norm ?_
  refine w_seq ?_
  refine w_run [0, 0] ?_
  refine t_done [(.int .i64 a0), (.int .i64 b1), (.int .i64 r2), (.int .i64 r2)] H9 (by kernel_rfl) ?_
  refine then_norm ?_
  refine w_ret ?_
  exact body_ret (vs := [(.int .i64 r2)]) _ (by kernel_rfl) rfl h

def rf_translog_reader_next : RFunc := ⟨1, 4, [.var 1],
 ((.seq (.ops [⟨.move (.k (.int .i64 0)), none, (some 1), true⟩])
 ((.seq ((.seq (.ops [⟨.move (.var 0), none, none, true⟩, ⟨.nilCheck (.loc 0), none, none, true⟩, ⟨.fieldAddr 0 (.loc 1), none, none, true⟩, ⟨.load none (.loc 2), none, none, true⟩, ⟨.len (.loc 3), none, none, true⟩, ⟨.bin .eql .no (.loc 4) (.k (.int .i64 0)), none, (some 2), true⟩])
 (.cond (.var 2) ((.seq (.ops [⟨.move (.var 0), none, none, true⟩, ⟨.nilCheck (.loc 0), none, none, true⟩, ⟨.fieldAddr 1 (.loc 1), none, none, true⟩, ⟨.store 1 (.loc 2) (.k (.bool false)) [], none, none, true⟩])
 ((.seq (.ops [⟨.move (.k (.int .i64 0)), none, (some 1), true⟩])
 (.ret))))) (.skip))))
 ((.seq (.ops [⟨.move (.var 0), none, none, true⟩, ⟨.nilCheck (.loc 0), none, none, true⟩, ⟨.fieldAddr 0 (.loc 1), none, none, true⟩, ⟨.load none (.loc 2), none, none, true⟩, ⟨.indexAddr 1 (.loc 3) (.k (.int .i64 0)), none, none, true⟩, ⟨.load none (.loc 4), none, none, true⟩, ⟨.move (.loc 5), none, (some 3), true⟩])
 ((.seq (.ops [⟨.move (.var 0), none, none, true⟩, ⟨.move (.var 0), none, none, true⟩, ⟨.nilCheck (.loc 1), none, none, true⟩, ⟨.fieldAddr 0 (.loc 2), none, none, true⟩, ⟨.load none (.loc 3), none, none, true⟩, ⟨.slice 1 (.loc 4) (some (.k (.int .i64 1))) none none, none, none, true⟩, ⟨.nilCheck (.loc 0), none, none, true⟩, ⟨.fieldAddr 0 (.loc 6), none, none, true⟩, ⟨.store 1 (.loc 7) (.loc 5) [], none, none, true⟩])
 ((.seq (.ops [⟨.move (.var 3), none, none, true⟩, ⟨.move (.loc 0), none, (some 1), true⟩])
 (.ret))))))))))), none⟩
theorem v_translog_reader_next {F : Nat → Option RFunc} {me : Nat} (hF : F me = some (rf_translog_reader_next )) {fl : Nat} {H : Heap} {Q : AV → Heap → Prop} (rb0 : Nat) (ro1 : Nat)
  (h : ∃ (e2 : AV), rload H none rb0 ro1 = some e2 ∧ ∃ len3 : Nat, lenA e2 = some len3 ∧ (((len3 : Int) = 0) → ∃ H4 : Heap, putA fl H rb0 (ro1 + 1) 1 (.bool false) = some H4 ∧ Q (.int .i64 0) H4) ∧ (¬((len3 : Int) = 0) → ∃ (e5 : AV), rload H none rb0 ro1 = some e5 ∧ ∃ (e6 : Int), getA H 1 none e5 0 0 = some (.int .i64 e6) ∧ ∃ (e8 : AV), rload H none rb0 ro1 = some e8 ∧ ∃ s9 : AV, rslice H 1 e8 (some (.int .i64 1)) none none = some s9 ∧ ∃ H10 : Heap, putA fl H rb0 ro1 1 s9 = some H10 ∧ Q (.int .i64 e6) H10)) : Ret F fl me [(.ptr rb0 ro1)] H Q := by
  refine ret_intro hF rfl ?_
  refine w_seq ?_
  refine w_run [0] ?_
  refine t_done [(.ptr rb0 ro1), (.int .i64 0), .undef, .undef] H (by kernel_rfl) ?_
  refine then_norm ?_
  refine w_seq ?_
  refine w_seq ?_
  refine w_run [0, 1, 1, 1, 1, 0] ?_
  refine t_ptr true rb0 ro1 H (by kernel_rfl) ?_
  refine t_op true (.fieldAddr 0 (.loc 0)) [.ptr rb0 ro1] H (.ptr rb0 ro1) H (by kernel_rfl) rfl ?_
  obtain ⟨e2, hl, h⟩ := h
  refine t_load true none rb0 ro1 e2 H (by kernel_rfl) hl ?_
  obtain ⟨len3, hl, h⟩ := h
  refine t_len true e2 len3 H (by kernel_rfl) hl ?_
  refine t_done [(.ptr rb0 ro1), (.int .i64 0), (.bool (((len3 : Int)) == 0)), .undef] H (by kernel_rfl) ?_
  refine then_norm ?_
  refine w_cond (t := (((len3 : Int)) == 0)) rfl (fun hc => ?_) (fun hc => ?_)
  · replace h := h.1 (is_eq.t hc)
    refine w_seq ?_
    refine w_run [0, 1, 1, 1] ?_
    refine t_ptr true rb0 ro1 H (by kernel_rfl) ?_
    refine t_op true (.fieldAddr 1 (.loc 0)) [.ptr rb0 ro1] H (.ptr rb0 (ro1 + 1)) H (by kernel_rfl) rfl ?_
    obtain ⟨H4, hp, h⟩ := h
    refine t_store true 1 rb0 (ro1 + 1) (.bool false) H4 H (by kernel_rfl) hp ?_
    refine t_done [(.ptr rb0 ro1), (.int .i64 0), (.bool (((len3 : Int)) == 0)), .undef] H4 (by kernel_rfl) ?_
    refine then_norm ?_
    refine w_seq ?_
    refine w_run [0] ?_
    refine t_done [(.ptr rb0 ro1), (.int .i64 0), (.bool (((len3 : Int)) == 0)), .undef] H4 (by kernel_rfl) ?_
    refine then_norm ?_
    refine w_ret ?_
    refine then_ret ?_
    exact body_ret (vs := [(.int .i64 0)]) _ (by kernel_rfl) rfl h
  · replace h := h.2 (is_eq.f hc)
    refine w_skip ?_
    refine then_norm ?_
    refine w_seq ?_
    refine w_run [0, 1, 1, 1, 1, 1, 0] ?_
    refine t_ptr true rb0 ro1 H (by kernel_rfl) ?_
    refine t_op true (.fieldAddr 0 (.loc 0)) [.ptr rb0 ro1] H (.ptr rb0 ro1) H (by kernel_rfl) rfl ?_
    obtain ⟨e5, hl, h⟩ := h
    refine t_load true none rb0 ro1 e5 H (by kernel_rfl) hl ?_
    obtain ⟨e6, hg7, h⟩ := h
    refine t_idxG true 1 e5 .i64 0 H (by kernel_rfl) hg7 ?_
    refine t_loadG true none 1 e5 0 0 (.int .i64 e6) H (by kernel_rfl) hg7 ?_
    refine t_done [(.ptr rb0 ro1), (.int .i64 0), (.bool (((len3 : Int)) == 0)), (.int .i64 e6)] H (by kernel_rfl) ?_
    refine then_norm ?_
    refine w_seq ?_
    refine w_run [0, 0, 1, 1, 1, 1, 1, 1, 1] ?_
    refine t_ptr true rb0 ro1 H (by kernel_rfl) ?_
    refine t_op true (.fieldAddr 0 (.loc 0)) [.ptr rb0 ro1] H (.ptr rb0 ro1) H (by kernel_rfl) rfl ?_
    obtain ⟨e8, hl, h⟩ := h
    refine t_load true none rb0 ro1 e8 H (by kernel_rfl) hl ?_
    obtain ⟨s9, hs, h⟩ := h
    refine t_slcL true 1 e8 (.int .i64 1) s9 H (by kernel_rfl) hs ?_
    refine t_ptr true rb0 ro1 H (by kernel_rfl) ?_
    refine t_op true (.fieldAddr 0 (.loc 0)) [.ptr rb0 ro1] H (.ptr rb0 ro1) H (by kernel_rfl) rfl ?_
    obtain ⟨H10, hp, h⟩ := h
    refine t_store true 1 rb0 ro1 s9 H10 H (by kernel_rfl) hp ?_
    refine t_done [(.ptr rb0 ro1), (.int .i64 0), (.bool (((len3 : Int)) == 0)), (.int .i64 e6)] H10 (by kernel_rfl) ?_
    refine then_norm ?_
    refine w_seq ?_
    refine w_run [0, 0] ?_
    refine t_done [(.ptr rb0 ro1), (.int .i64 e6), (.bool (((len3 : Int)) == 0)), (.int .i64 e6)] H10 (by kernel_rfl) ?_
    refine then_norm ?_
    refine w_ret ?_
    exact body_ret (vs := [(.int .i64 e6)]) _ (by kernel_rfl) rfl h

def rf_translog_reader_include (ntranslog_split ntranslog_reader_include ntranslog_reader_next ntranslog_pair : Nat) : RFunc := ⟨4, 10, [.var 4],
 ((.seq (.ops [⟨.move (.k (.int .i64 0)), none, (some 4), true⟩])
 ((.seq ((.seq (.ops [⟨.move (.var 1), none, none, true⟩, ⟨.bin .eql .no (.loc 0) (.k (.int .i64 1)), none, (some 5), true⟩])
 (.cond (.var 5) ((.seq (.ops [⟨.move (.var 3), none, none, true⟩, ⟨.move (.loc 0), none, (some 4), true⟩])
 (.ret))) (.skip))))
 ((.seq (.ops [⟨.move (.var 1), none, none, true⟩, ⟨.callS ntranslog_split [(.loc 0)], none, none, true⟩, ⟨.move (.loc 1), none, (some 6), true⟩])
 ((.seq ((.seq (.ops [⟨.move (.var 2), none, none, true⟩, ⟨.move (.var 6), none, none, true⟩, ⟨.bin .lss .no (.loc 0) (.loc 1), none, (some 7), true⟩])
 (.cond (.var 7) ((.seq (.ops [⟨.move (.var 0), none, none, true⟩, ⟨.move (.var 6), none, none, true⟩, ⟨.move (.var 2), none, none, true⟩, ⟨.move (.var 3), none, none, true⟩, ⟨.callS ntranslog_reader_include [(.loc 0), (.loc 1), (.loc 2), (.loc 3)], none, none, true⟩, ⟨.move (.loc 4), none, (some 8), true⟩])
 ((.seq (.ops [⟨.move (.var 8), none, none, true⟩, ⟨.move (.var 0), none, none, true⟩, ⟨.callS ntranslog_reader_next [(.loc 1)], none, none, true⟩, ⟨.callS ntranslog_pair [(.loc 0), (.loc 2)], none, none, true⟩, ⟨.move (.loc 3), none, (some 4), true⟩])
 (.ret))))) (.skip))))
 ((.seq (.ops [⟨.move (.var 0), none, none, true⟩, ⟨.move (.var 1), none, none, true⟩, ⟨.move (.var 6), none, none, true⟩, ⟨.bin .sub .no (.loc 1) (.loc 2), none, none, true⟩, ⟨.move (.var 2), none, none, true⟩, ⟨.move (.var 6), none, none, true⟩, ⟨.bin .sub .no (.loc 4) (.loc 5), none, none, true⟩, ⟨.move (.var 3), none, none, true⟩, ⟨.callS ntranslog_reader_include [(.loc 0), (.loc 3), (.loc 6), (.loc 7)], none, none, true⟩, ⟨.move (.loc 8), none, (some 9), true⟩])
 ((.seq (.ops [⟨.move (.var 0), none, none, true⟩, ⟨.callS ntranslog_reader_next [(.loc 0)], none, none, true⟩, ⟨.move (.var 9), none, none, true⟩, ⟨.callS ntranslog_pair [(.loc 1), (.loc 2)], none, none, true⟩, ⟨.move (.loc 3), none, (some 4), true⟩])
 (.ret))))))))))))), none⟩
theorem v_translog_reader_include {F : Nat → Option RFunc} {me ntranslog_split ntranslog_reader_include ntranslog_reader_next ntranslog_pair : Nat} (hF : F me = some (rf_translog_reader_include ntranslog_split ntranslog_reader_include ntranslog_reader_next ntranslog_pair)) {fl : Nat} {H : Heap} {Q : AV → Heap → Prop} (rb0 : Nat) (ro1 : Nat) (n2 : Int) (i3 : Int) (leaf4 : Int)
  (h : ((n2 = 1) → Q (.int .i64 leaf4) H) ∧ (¬(n2 = 1) → Ret F fl ntranslog_split [(.int .i64 n2)] H (fun v7 H6 => ∃ (r5 : Int), v7 = (.int .i64 r5) ∧ ((i3 < r5) → Ret F fl ntranslog_reader_include [(.ptr rb0 ro1), (.int .i64 r5), (.int .i64 i3), (.int .i64 leaf4)] H6 (fun v10 H9 => ∃ (r8 : Int), v10 = (.int .i64 r8) ∧ Ret F fl ntranslog_reader_next [(.ptr rb0 ro1)] H9 (fun v13 H12 => ∃ (r11 : Int), v13 = (.int .i64 r11) ∧ Ret F fl ntranslog_pair [(.int .i64 r8), (.int .i64 r11)] H12 (fun v16 H15 => ∃ (r14 : Int), v16 = (.int .i64 r14) ∧ Q (.int .i64 r14) H15)))) ∧ (¬(i3 < r5) → Ret F fl ntranslog_reader_include [(.ptr rb0 ro1), (.int .i64 (IntKind.wrap .i64 (n2 - r5))), (.int .i64 (IntKind.wrap .i64 (i3 - r5))), (.int .i64 leaf4)] H6 (fun v19 H18 => ∃ (r17 : Int), v19 = (.int .i64 r17) ∧ Ret F fl ntranslog_reader_next [(.ptr rb0 ro1)] H18 (fun v22 H21 => ∃ (r20 : Int), v22 = (.int .i64 r20) ∧ Ret F fl ntranslog_pair [(.int .i64 r20), (.int .i64 r17)] H21 (fun v25 H24 => ∃ (r23 : Int), v25 = (.int .i64 r23) ∧ Q (.int .i64 r23) H24))))))) : Ret F fl me [(.ptr rb0 ro1), (.int .i64 n2), (.int .i64 i3), (.int .i64 leaf4)] H Q := by
  refine ret_intro hF rfl ?_
  refine w_seq ?_
  refine w_run [0] ?_
  refine t_done [(.ptr rb0 ro1), (.int .i64 n2), (.int .i64 i3), (.int .i64 leaf4), (.int .i64 0), .undef, .undef, .undef, .undef, .undef] H (by kernel_rfl) ?_
  refine then_norm ?_
  refine w_seq ?_
  refine w_seq ?_
  refine w_run [0, 0] ?_
  refine t_done [(.ptr rb0 ro1), (.int .i64 n2), (.int .i64 i3), (.int .i64 leaf4), (.int .i64 0), (.bool ((n2) == 1)), .undef, .undef, .undef, .undef] H (by kernel_rfl) ?_
  refine then_norm ?_
  refine w_cond (t := ((n2) == 1)) rfl (fun hc => ?_) (fun hc => ?_)
  · replace h := h.1 (is_eq.t hc)
    refine w_seq ?_
    refine w_run [0, 0] ?_
    refine t_done [(.ptr rb0 ro1), (.int .i64 n2), (.int .i64 i3), (.int .i64 leaf4), (.int .i64 leaf4), (.bool ((n2) == 1)), .undef, .undef, .undef, .undef] H (by kernel_rfl) ?_
    refine then_norm ?_
    refine w_ret ?_
    refine then_ret ?_
    exact body_ret (vs := [(.int .i64 leaf4)]) _ (by kernel_rfl) rfl h
  · replace h := h.2 (is_eq.f hc)
    refine w_skip ?_
    refine then_norm ?_
    refine w_seq ?_
    refine w_run [0, 1, 0] ?_
    refine t_call true ntranslog_split [(.int .i64 n2)] H (by kernel_rfl) h ?_
    clear h
    rintro _ H6 ⟨r5, rfl, h⟩
    refine t_done [(.ptr rb0 ro1), (.int .i64 n2), (.int .i64 i3), (.int .i64 leaf4), (.int .i64 0), (.bool ((n2) == 1)), (.int .i64 r5), .undef, .undef, .undef] H6 (by kernel_rfl) ?_
    refine then_norm ?_
    refine w_seq ?_
    refine w_seq ?_
    refine w_run [0, 0, 0] ?_
    refine t_done [(.ptr rb0 ro1), (.int .i64 n2), (.int .i64 i3), (.int .i64 leaf4), (.int .i64 0), (.bool ((n2) == 1)), (.int .i64 r5), (.bool (decide (i3 < r5))), .undef, .undef] H6 (by kernel_rfl) ?_
    refine then_norm ?_
    refine w_cond (t := (decide (i3 < r5))) rfl (fun hc => ?_) (fun hc => ?_)
    · replace h := h.1 (is_dec.t hc)
      refine w_seq ?_
      refine w_run [0, 0, 0, 0, 1, 0] ?_
      refine t_call true ntranslog_reader_include [(.ptr rb0 ro1), (.int .i64 r5), (.int .i64 i3), (.int .i64 leaf4)] H6 (by kernel_rfl) h ?_
      clear h
      rintro _ H9 ⟨r8, rfl, h⟩
      refine t_done [(.ptr rb0 ro1), (.int .i64 n2), (.int .i64 i3), (.int .i64 leaf4), (.int .i64 0), (.bool ((n2) == 1)), (.int .i64 r5), (.bool (decide (i3 < r5))), (.int .i64 r8), .undef] H9 (by kernel_rfl) ?_
      refine then_norm ?_
      refine w_seq ?_
      refine w_run [0, 0, 1, 1, 0] ?_
      refine t_call true ntranslog_reader_next [(.ptr rb0 ro1)] H9 (by kernel_rfl) h ?_
      clear h
      rintro _ H12 ⟨r11, rfl, h⟩
      refine t_call true ntranslog_pair [(.int .i64 r8), (.int .i64 r11)] H12 (by kernel_rfl) h ?_
      clear h
      rintro _ H15 ⟨r14, rfl, h⟩
      refine t_done [(.ptr rb0 ro1), (.int .i64 n2), (.int .i64 i3), (.int .i64 leaf4), (.int .i64 r14), (.bool ((n2) == 1)), (.int .i64 r5), (.bool (decide (i3 < r5))), (.int .i64 r8), .undef] H15 (by kernel_rfl) ?_
      refine then_norm ?_
      refine w_ret ?_
      refine then_ret ?_
      exact body_ret (vs := [(.int .i64 r14)]) _ (by kernel_rfl) rfl h
    · replace h := h.2 (is_dec.f hc)
      refine w_skip ?_
      refine then_norm ?_
      refine w_seq ?_
      refine w_run [0, 0, 0, 0, 0, 0, 0, 0, 1, 0] ?_
      refine t_call true ntranslog_reader_include [(.ptr rb0 ro1), (.int .i64 (IntKind.wrap .i64 (n2 - r5))), (.int .i64 (IntKind.wrap .i64 (i3 - r5))), (.int .i64 leaf4)] H6 (by kernel_rfl) h ?_
      clear h
      rintro _ H18 ⟨r17, rfl, h⟩
      refine t_done [(.ptr rb0 ro1), (.int .i64 n2), (.int .i64 i3), (.int .i64 leaf4), (.int .i64 0), (.bool ((n2) == 1)), (.int .i64 r5), (.bool (decide (i3 < r5))), .undef, (.int .i64 r17)] H18 (by kernel_rfl) ?_
      refine then_norm ?_
      refine w_seq ?_
      refine w_run [0, 1, 0, 1, 0] ?_
      refine t_call true ntranslog_reader_next [(.ptr rb0 ro1)] H18 (by kernel_rfl) h ?_
      clear h
      rintro _ H21 ⟨r20, rfl, h⟩
      refine t_call true ntranslog_pair [(.int .i64 r20), (.int .i64 r17)] H21 (by kernel_rfl) h ?_
      clear h
      rintro _ H24 ⟨r23, rfl, h⟩
      refine t_done [(.ptr rb0 ro1), (.int .i64 n2), (.int .i64 i3), (.int .i64 leaf4), (.int .i64 r23), (.bool ((n2) == 1)), (.int .i64 r5), (.bool (decide (i3 < r5))), .undef, (.int .i64 r17)] H24 (by kernel_rfl) ?_
      refine then_norm ?_
      refine w_ret ?_
      exact body_ret (vs := [(.int .i64 r23)]) _ (by kernel_rfl) rfl h

def rf_translog_ranges : RFunc := ⟨1, 9, [.part 1 (some 2)],
 ((.seq (.ops [⟨.tomb 1 (.k (.agg [.int .i64 0, .int .i64 0])), none, (some 1), true⟩])
 ((.seq ((.seq (.ops [⟨.move (.var 0), none, (some 5), true⟩, ⟨.len (.loc 0), none, (some 3), true⟩, ⟨.move (.k (.int .i64 0)), none, (some 2), true⟩])
 (.block 0 (.loop ((.seq (.ops [⟨.bin .lss .no (.var 2) (.var 3), none, (some 4), true⟩])
 ((.seq (.cond (.var 4) (.skip) (.exit 0))
 ((.seq (.block 1 ((.seq (.ops [⟨.move (.var 2), none, none, true⟩, ⟨.indexAddr 1 (.var 5) (.var 2), none, none, true⟩, ⟨.load none (.loc 1), none, none, true⟩, ⟨.move (.loc 0), none, (some 8), true⟩, ⟨.move (.loc 2), none, (some 6), true⟩])
 ((.seq (.ops [⟨.move (.var 6), none, none, true⟩, ⟨.un .not (.loc 0), none, (some 7), true⟩])
 (.cond (.var 7) ((.seq (.ops [⟨.move (.var 8), none, none, true⟩, ⟨.build [.int .i64 0, .int .i64 0] [(0, 1, (.k (.int .i64 3))), (1, 1, (.loc 0))], none, none, true⟩, ⟨.upd 2 0 (.var 1) (.loc 1), none, (some 1), true⟩])
 (.ret))) (.skip)))))))
 (.ops [⟨.bin .add .no (.var 2) (.k (.int .i64 1)), none, none, true⟩, ⟨.move (.loc 0), none, (some 2), true⟩])))))))))))
 ((.seq (.ops [⟨.build [.int .i64 0, .int .i64 0] [], none, none, true⟩, ⟨.upd 2 0 (.var 1) (.loc 0), none, (some 1), true⟩])
 (.ret))))))), none⟩
theorem v_translog_ranges {F : Nat → Option RFunc} {me : Nat} (hF : F me = some (rf_translog_ranges )) {fl : Nat} {H : Heap} {Q : AV → Heap → Prop} (ok0 : AV)
  (h : ∀ (H1 : Heap), Dead1 H 1 H1 → ∃ len2 : Nat, lenA ok0 = some len2 ∧ ∃ (J3 : Nat → Int → Int → Int → Prop) (k4 : Nat), J3 k4 0 0 0 ∧ (∀ (m5 : Nat) (v6 : Int) (v7 : Int) (v8 : Int), J3 m5 v6 v7 v8 → ((v8 < (len2 : Int)) → ∃ (e13 : Bool), getA H1 1 none ok0 v8 0 = some (.bool e13) ∧ ((¬(e13 = true)) → Q (.agg [(.int .i64 3), (.int .i64 v8)]) H1) ∧ (¬(¬(e13 = true)) → ∃ m15 : Nat, m15 < m5 ∧ J3 m15 v6 v7 (IntKind.wrap .i64 (v8 + 1)))) ∧ (¬(v8 < (len2 : Int)) → Q (.agg [(.int .i64 0), (.int .i64 0)]) H1))) : Ret F fl me [ok0] H Q := by
  refine ret_intro hF rfl ?_
  refine w_seq ?_
  refine w_run [1] ?_
  obtain ⟨H1, hb⟩ : ∃ H', Dead1 H 1 H' := ⟨_, ⟨rfl⟩⟩
  replace h := h H1 hb
  refine t_tomb true 1 (.agg [(.int .i64 0), (.int .i64 0)]) [(.int .i64 0), (.int .i64 0)] H1 H (by kernel_rfl) rfl hb ?_
  refine t_done [ok0, (.agg [(.int .i64 0), (.int .i64 0)]), .undef, .undef, .undef, .undef, .undef, .undef, .undef] H1 (by kernel_rfl) ?_
  refine then_norm ?_
  refine w_seq ?_
  refine w_seq ?_
  refine w_run [0, 1, 0] ?_
  obtain ⟨len2, hl, h⟩ := h
  refine t_len true ok0 len2 H1 (by kernel_rfl) hl ?_
  refine t_done [ok0, (.agg [(.int .i64 0), (.int .i64 0)]), (.int .i64 0), (.int .i64 (len2 : Int)), .undef, ok0, .undef, .undef, .undef] H1 (by kernel_rfl) ?_
  refine then_norm ?_
  refine w_block ?_
  obtain ⟨J3, k4, h0, h⟩ := h
  refine w_loop (I := fun mI EI HI => ∃ (v6 : Int) (v7 : Int) (v8 : Int) (d9 : AV) (d10 : AV) (d11 : AV) (d12 : AV), EI = [ok0, (.agg [(.int .i64 v6), (.int .i64 v7)]), (.int .i64 v8), (.int .i64 (len2 : Int)), d9, ok0, d10, d11, d12] ∧ H1 = HI ∧ J3 mI v6 v7 v8) ?_ k4 ⟨_, _, _, _, _, _, _, rfl, rfl, h0⟩
  clear h0
  rintro m5 EI HI ⟨v6, v7, v8, d9, d10, d11, d12, rfl, rfl, hJ⟩
  replace h := h m5 v6 v7 v8  hJ
  clear hJ
  refine w_seq ?_
  refine w_run [0] ?_
  refine t_done [ok0, (.agg [(.int .i64 v6), (.int .i64 v7)]), (.int .i64 v8), (.int .i64 (len2 : Int)), (.bool (decide (v8 < (len2 : Int)))), ok0, d10, d11, d12] H1 (by kernel_rfl) ?_
  refine then_norm ?_
  refine w_seq ?_
  refine w_cond (t := (decide (v8 < (len2 : Int)))) rfl (fun hc => ?_) (fun hc => ?_)
  · replace h := h.1 (is_dec.t hc)
    refine w_skip ?_
    refine then_norm ?_
    refine w_seq ?_
    refine w_block ?_
    refine w_seq ?_
    refine w_run [0, 1, 1, 0, 0] ?_
    obtain ⟨e13, hg14, h⟩ := h
    refine t_idxG true 1 ok0 .i64 v8 H1 (by kernel_rfl) hg14 ?_
    refine t_loadG true none 1 ok0 v8 0 (.bool e13) H1 (by kernel_rfl) hg14 ?_
    refine t_done [ok0, (.agg [(.int .i64 v6), (.int .i64 v7)]), (.int .i64 v8), (.int .i64 (len2 : Int)), (.bool (decide (v8 < (len2 : Int)))), ok0, (.bool e13), d11, (.int .i64 v8)] H1 (by kernel_rfl) ?_
    refine then_norm ?_
    refine w_seq ?_
    refine w_run [0, 0] ?_
    refine t_done [ok0, (.agg [(.int .i64 v6), (.int .i64 v7)]), (.int .i64 v8), (.int .i64 (len2 : Int)), (.bool (decide (v8 < (len2 : Int)))), ok0, (.bool e13), (.bool (!e13)), (.int .i64 v8)] H1 (by kernel_rfl) ?_
    refine then_norm ?_
    refine w_cond (t := (!e13)) rfl (fun hc => ?_) (fun hc => ?_)
    · replace h := h.1 ((is_not is_raw).t hc)
      refine w_seq ?_
      refine w_run [0, 1, 1] ?_
      refine t_build true [(.int .i64 0), (.int .i64 0)] [(0, 1, .loc 0), (1, 1, .loc 1)] [(.int .i64 3), (.int .i64 v8)] [(.int .i64 3), (.int .i64 v8)] H1 (by kernel_rfl) (fill_c (vs := [(.int .i64 3)]) (size := 1) rfl (by kernel_rfl) (by kernel_rfl) (fill_c (vs := [(.int .i64 v8)]) (size := 1) rfl (by kernel_rfl) (by kernel_rfl) (by kernel_rfl))) ?_
      refine t_upd true 2 0 [(.int .i64 v6), (.int .i64 v7)] (.agg [(.int .i64 3), (.int .i64 v8)]) [(.int .i64 3), (.int .i64 v8)] [(.int .i64 3), (.int .i64 v8)] H1 (by kernel_rfl) rfl (all_c rfl (all_c rfl all_n)) ⟨rfl, Nat.le_of_ble_eq_true (by kernel_rfl), rfl⟩ ?_
      refine t_done [ok0, (.agg [(.int .i64 3), (.int .i64 v8)]), (.int .i64 v8), (.int .i64 (len2 : Int)), (.bool (decide (v8 < (len2 : Int)))), ok0, (.bool e13), (.bool (!e13)), (.int .i64 v8)] H1 (by kernel_rfl) ?_
      refine then_norm ?_
      refine w_ret ?_
      refine block_ret ?_
      refine then_ret ?_
      refine loop_ret ?_
      refine block_ret ?_
      refine then_ret ?_
      exact body_ret (vs := [(.agg [(.int .i64 3), (.int .i64 v8)])]) _ (by kernel_rfl) rfl h
    · replace h := h.2 ((is_not is_raw).f hc)
      refine w_skip ?_
      refine block_norm ?_
      refine then_norm ?_
      refine w_run [0, 0] ?_
      refine t_done [ok0, (.agg [(.int .i64 v6), (.int .i64 v7)]), (.int .i64 (IntKind.wrap .i64 (v8 + 1))), (.int .i64 (len2 : Int)), (.bool (decide (v8 < (len2 : Int)))), ok0, (.bool e13), (.bool (!e13)), (.int .i64 v8)] H1 (by kernel_rfl) ?_
      obtain ⟨m', hm, h⟩ := h
      refine loop_norm ⟨m', hm, _, _, _, _, _, _, _, rfl, rfl, h⟩
  · replace h := h.2 (is_dec.f hc)
    refine w_exit ?_
    refine then_exit ?_
    refine loop_exit ?_
    refine block_exit ?_
    refine then_norm ?_
    refine w_seq ?_
    refine w_run [1, 1] ?_
    refine t_build true [(.int .i64 0), (.int .i64 0)] [] [] [(.int .i64 0), (.int .i64 0)] H1 (by kernel_rfl) (by kernel_rfl) ?_
    refine t_upd true 2 0 [(.int .i64 v6), (.int .i64 v7)] (.agg [(.int .i64 0), (.int .i64 0)]) [(.int .i64 0), (.int .i64 0)] [(.int .i64 0), (.int .i64 0)] H1 (by kernel_rfl) rfl (all_c rfl (all_c rfl all_n)) ⟨rfl, Nat.le_of_ble_eq_true (by kernel_rfl), rfl⟩ ?_
    refine t_done [ok0, (.agg [(.int .i64 0), (.int .i64 0)]), (.int .i64 v8), (.int .i64 (len2 : Int)), (.bool (decide (v8 < (len2 : Int)))), ok0, d10, d11, d12] H1 (by kernel_rfl) ?_
    refine then_norm ?_
    refine w_ret ?_
    exact body_ret (vs := [(.agg [(.int .i64 0), (.int .i64 0)])]) _ (by kernel_rfl) rfl h

def rf_translog_proofFault (nsigning_IsDigest : Nat) : RFunc := ⟨2, 11, [.part 2 (some 2)],
 ((.seq (.ops [⟨.tomb 1 (.k (.agg [.int .i64 0, .int .i64 0])), none, (some 2), true⟩])
 ((.seq ((.seq (.ops [⟨.move (.var 0), none, none, true⟩, ⟨.len (.loc 0), none, none, true⟩, ⟨.bin .gtr .no (.loc 1) (.k (.int .i64 64)), none, (some 3), true⟩])
 (.cond (.var 3) ((.seq (.ops [⟨.build [.int .i64 0, .int .i64 0] [(0, 1, (.k (.int .i64 2))), (1, 1, (.k (.int .i64 (-1))))], none, none, true⟩, ⟨.upd 2 0 (.var 2) (.loc 0), none, (some 2), true⟩])
 (.ret))) (.skip))))
 ((.seq ((.seq (.ops [⟨.move (.var 0), none, (some 7), true⟩, ⟨.len (.loc 0), none, (some 5), true⟩, ⟨.move (.k (.int .i64 0)), none, (some 4), true⟩])
 (.block 0 (.loop ((.seq (.ops [⟨.bin .lss .no (.var 4) (.var 5), none, (some 6), true⟩])
 ((.seq (.cond (.var 6) (.skip) (.exit 0))
 ((.seq (.block 1 ((.seq (.ops [⟨.move (.var 4), none, none, true⟩, ⟨.indexAddr 1 (.var 7) (.var 4), none, none, true⟩, ⟨.load none (.loc 1), none, none, true⟩, ⟨.move (.loc 0), none, (some 10), true⟩, ⟨.move (.loc 2), none, (some 8), true⟩])
 ((.seq (.ops [⟨.move (.var 8), none, none, true⟩, ⟨.callS nsigning_IsDigest [(.loc 0)], none, none, true⟩, ⟨.un .not (.loc 1), none, (some 9), true⟩])
 (.cond (.var 9) ((.seq (.ops [⟨.move (.var 1), none, none, true⟩, ⟨.move (.var 10), none, none, true⟩, ⟨.bin .add .no (.loc 0) (.loc 1), none, none, true⟩, ⟨.build [.int .i64 0, .int .i64 0] [(0, 1, (.k (.int .i64 3))), (1, 1, (.loc 2))], none, none, true⟩, ⟨.upd 2 0 (.var 2) (.loc 3), none, (some 2), true⟩])
 (.ret))) (.skip)))))))
 (.ops [⟨.bin .add .no (.var 4) (.k (.int .i64 1)), none, none, true⟩, ⟨.move (.loc 0), none, (some 4), true⟩])))))))))))
 ((.seq (.ops [⟨.build [.int .i64 0, .int .i64 0] [], none, none, true⟩, ⟨.upd 2 0 (.var 2) (.loc 0), none, (some 2), true⟩])
 (.ret))))))))), none⟩
theorem v_translog_proofFault {F : Nat → Option RFunc} {me nsigning_IsDigest : Nat} (hF : F me = some (rf_translog_proofFault nsigning_IsDigest)) {fl : Nat} {H : Heap} {Q : AV → Heap → Prop} (proof0 : AV) (from1 : Int)
  (h : ∀ (H2 : Heap), Dead1 H 1 H2 → ∃ len3 : Nat, lenA proof0 = some len3 ∧ (((len3 : Int) > 64) → Q (.agg [(.int .i64 2), (.int .i64 (-1))]) H2) ∧ (¬((len3 : Int) > 64) → ∃ len4 : Nat, lenA proof0 = some len4 ∧ ∃ (J5 : Nat → Int → Int → Int → Heap → Prop) (k6 : Nat), J5 k6 0 0 0 H2 ∧ (∀ (m7 : Nat) (v8 : Int) (v9 : Int) (v10 : Int) (H15 : Heap), J5 m7 v8 v9 v10 H15 → ((v10 < (len4 : Int)) → ∃ (e16 : Int), getA H15 1 none proof0 v10 0 = some (.int .i64 e16) ∧ Ret F fl nsigning_IsDigest [(.int .i64 e16)] H15 (fun v20 H19 => ∃ (r18 : Bool), v20 = (.bool r18) ∧ ((¬(r18 = true)) → Q (.agg [(.int .i64 3), (.int .i64 (IntKind.wrap .i64 (from1 + v10)))]) H19) ∧ (¬(¬(r18 = true)) → ∃ m21 : Nat, m21 < m7 ∧ J5 m21 v8 v9 (IntKind.wrap .i64 (v10 + 1)) H19))) ∧ (¬(v10 < (len4 : Int)) → Q (.agg [(.int .i64 0), (.int .i64 0)]) H15)))) : Ret F fl me [proof0, (.int .i64 from1)] H Q := by
  refine ret_intro hF rfl ?_
  refine w_seq ?_
  refine w_run [1] ?_
  obtain ⟨H2, hb⟩ : ∃ H', Dead1 H 1 H' := ⟨_, ⟨rfl⟩⟩
  replace h := h H2 hb
  refine t_tomb true 1 (.agg [(.int .i64 0), (.int .i64 0)]) [(.int .i64 0), (.int .i64 0)] H2 H (by kernel_rfl) rfl hb ?_
  refine t_done [proof0, (.int .i64 from1), (.agg [(.int .i64 0), (.int .i64 0)]), .undef, .undef, .undef, .undef, .undef, .undef, .undef, .undef] H2 (by kernel_rfl) ?_
  refine then_norm ?_
  refine w_seq ?_
  refine w_seq ?_
  refine w_run [0, 1, 0] ?_
  obtain ⟨len3, hl, h⟩ := h
  refine t_len true proof0 len3 H2 (by kernel_rfl) hl ?_
  refine t_done [proof0, (.int .i64 from1), (.agg [(.int .i64 0), (.int .i64 0)]), (.bool (decide ((len3 : Int) > 64))), .undef, .undef, .undef, .undef, .undef, .undef, .undef] H2 (by kernel_rfl) ?_
  refine then_norm ?_
  refine w_cond (t := (decide ((len3 : Int) > 64))) rfl (fun hc => ?_) (fun hc => ?_)
  · replace h := h.1 (is_dec.t hc)
    refine w_seq ?_
    refine w_run [1, 1] ?_
    refine t_build true [(.int .i64 0), (.int .i64 0)] [(0, 1, .loc 0), (1, 1, .loc 1)] [(.int .i64 2), (.int .i64 (-1))] [(.int .i64 2), (.int .i64 (-1))] H2 (by kernel_rfl) (fill_c (vs := [(.int .i64 2)]) (size := 1) rfl (by kernel_rfl) (by kernel_rfl) (fill_c (vs := [(.int .i64 (-1))]) (size := 1) rfl (by kernel_rfl) (by kernel_rfl) (by kernel_rfl))) ?_
    refine t_upd true 2 0 [(.int .i64 0), (.int .i64 0)] (.agg [(.int .i64 2), (.int .i64 (-1))]) [(.int .i64 2), (.int .i64 (-1))] [(.int .i64 2), (.int .i64 (-1))] H2 (by kernel_rfl) rfl (all_c rfl (all_c rfl all_n)) ⟨rfl, Nat.le_of_ble_eq_true (by kernel_rfl), rfl⟩ ?_
    refine t_done [proof0, (.int .i64 from1), (.agg [(.int .i64 2), (.int .i64 (-1))]), (.bool (decide ((len3 : Int) > 64))), .undef, .undef, .undef, .undef, .undef, .undef, .undef] H2 (by kernel_rfl) ?_
    refine then_norm ?_
    refine w_ret ?_
    refine then_ret ?_
    exact body_ret (vs := [(.agg [(.int .i64 2), (.int .i64 (-1))])]) _ (by kernel_rfl) rfl h
  · replace h := h.2 (is_dec.f hc)
    refine w_skip ?_
    refine then_norm ?_
    refine w_seq ?_
    refine w_seq ?_
    refine w_run [0, 1, 0] ?_
    obtain ⟨len4, hl, h⟩ := h
    refine t_len true proof0 len4 H2 (by kernel_rfl) hl ?_
    refine t_done [proof0, (.int .i64 from1), (.agg [(.int .i64 0), (.int .i64 0)]), (.bool (decide ((len3 : Int) > 64))), (.int .i64 0), (.int .i64 (len4 : Int)), .undef, proof0, .undef, .undef, .undef] H2 (by kernel_rfl) ?_
    refine then_norm ?_
    refine w_block ?_
    obtain ⟨J5, k6, h0, h⟩ := h
    refine w_loop (I := fun mI EI HI => ∃ (v8 : Int) (v9 : Int) (v10 : Int) (d11 : AV) (d12 : AV) (d13 : AV) (d14 : AV), EI = [proof0, (.int .i64 from1), (.agg [(.int .i64 v8), (.int .i64 v9)]), (.bool (decide ((len3 : Int) > 64))), (.int .i64 v10), (.int .i64 (len4 : Int)), d11, proof0, d12, d13, d14] ∧ J5 mI v8 v9 v10 HI) ?_ k6 ⟨_, _, _, _, _, _, _, rfl, h0⟩
    clear h0
    rintro m7 EI H15 ⟨v8, v9, v10, d11, d12, d13, d14, rfl, hJ⟩
    replace h := h m7 v8 v9 v10 H15 hJ
    clear hJ
    refine w_seq ?_
    refine w_run [0] ?_
    refine t_done [proof0, (.int .i64 from1), (.agg [(.int .i64 v8), (.int .i64 v9)]), (.bool (decide ((len3 : Int) > 64))), (.int .i64 v10), (.int .i64 (len4 : Int)), (.bool (decide (v10 < (len4 : Int)))), proof0, d12, d13, d14] H15 (by kernel_rfl) ?_
    refine then_norm ?_
    refine w_seq ?_
    refine w_cond (t := (decide (v10 < (len4 : Int)))) rfl (fun hc => ?_) (fun hc => ?_)
    · replace h := h.1 (is_dec.t hc)
      refine w_skip ?_
      refine then_norm ?_
      refine w_seq ?_
      refine w_block ?_
      refine w_seq ?_
      refine w_run [0, 1, 1, 0, 0] ?_
      obtain ⟨e16, hg17, h⟩ := h
      refine t_idxG true 1 proof0 .i64 v10 H15 (by kernel_rfl) hg17 ?_
      refine t_loadG true none 1 proof0 v10 0 (.int .i64 e16) H15 (by kernel_rfl) hg17 ?_
      refine t_done [proof0, (.int .i64 from1), (.agg [(.int .i64 v8), (.int .i64 v9)]), (.bool (decide ((len3 : Int) > 64))), (.int .i64 v10), (.int .i64 (len4 : Int)), (.bool (decide (v10 < (len4 : Int)))), proof0, (.int .i64 e16), d13, (.int .i64 v10)] H15 (by kernel_rfl) ?_
      refine then_norm ?_
      refine w_seq ?_
      refine w_run [0, 1, 0] ?_
      refine t_call true nsigning_IsDigest [(.int .i64 e16)] H15 (by kernel_rfl) h ?_
      clear h
      rintro _ H19 ⟨r18, rfl, h⟩
      refine t_done [proof0, (.int .i64 from1), (.agg [(.int .i64 v8), (.int .i64 v9)]), (.bool (decide ((len3 : Int) > 64))), (.int .i64 v10), (.int .i64 (len4 : Int)), (.bool (decide (v10 < (len4 : Int)))), proof0, (.int .i64 e16), (.bool (!r18)), (.int .i64 v10)] H19 (by kernel_rfl) ?_
      refine then_norm ?_
      refine w_cond (t := (!r18)) rfl (fun hc => ?_) (fun hc => ?_)
      · replace h := h.1 ((is_not is_raw).t hc)
        refine w_seq ?_
        refine w_run [0, 0, 0, 1, 1] ?_
        refine t_build true [(.int .i64 0), (.int .i64 0)] [(0, 1, .loc 0), (1, 1, .loc 1)] [(.int .i64 3), (.int .i64 (IntKind.wrap .i64 (from1 + v10)))] [(.int .i64 3), (.int .i64 (IntKind.wrap .i64 (from1 + v10)))] H19 (by kernel_rfl) (fill_c (vs := [(.int .i64 3)]) (size := 1) rfl (by kernel_rfl) (by kernel_rfl) (fill_c (vs := [(.int .i64 (IntKind.wrap .i64 (from1 + v10)))]) (size := 1) rfl (by kernel_rfl) (by kernel_rfl) (by kernel_rfl))) ?_
        refine t_upd true 2 0 [(.int .i64 v8), (.int .i64 v9)] (.agg [(.int .i64 3), (.int .i64 (IntKind.wrap .i64 (from1 + v10)))]) [(.int .i64 3), (.int .i64 (IntKind.wrap .i64 (from1 + v10)))] [(.int .i64 3), (.int .i64 (IntKind.wrap .i64 (from1 + v10)))] H19 (by kernel_rfl) rfl (all_c rfl (all_c rfl all_n)) ⟨rfl, Nat.le_of_ble_eq_true (by kernel_rfl), rfl⟩ ?_
        refine t_done [proof0, (.int .i64 from1), (.agg [(.int .i64 3), (.int .i64 (IntKind.wrap .i64 (from1 + v10)))]), (.bool (decide ((len3 : Int) > 64))), (.int .i64 v10), (.int .i64 (len4 : Int)), (.bool (decide (v10 < (len4 : Int)))), proof0, (.int .i64 e16), (.bool (!r18)), (.int .i64 v10)] H19 (by kernel_rfl) ?_
        refine then_norm ?_
        refine w_ret ?_
        refine block_ret ?_
        refine then_ret ?_
        refine loop_ret ?_
        refine block_ret ?_
        refine then_ret ?_
        exact body_ret (vs := [(.agg [(.int .i64 3), (.int .i64 (IntKind.wrap .i64 (from1 + v10)))])]) _ (by kernel_rfl) rfl h
      · replace h := h.2 ((is_not is_raw).f hc)
        refine w_skip ?_
        refine block_norm ?_
        refine then_norm ?_
        refine w_run [0, 0] ?_
        refine t_done [proof0, (.int .i64 from1), (.agg [(.int .i64 v8), (.int .i64 v9)]), (.bool (decide ((len3 : Int) > 64))), (.int .i64 (IntKind.wrap .i64 (v10 + 1))), (.int .i64 (len4 : Int)), (.bool (decide (v10 < (len4 : Int)))), proof0, (.int .i64 e16), (.bool (!r18)), (.int .i64 v10)] H19 (by kernel_rfl) ?_
        obtain ⟨m', hm, h⟩ := h
        refine loop_norm ⟨m', hm, _, _, _, _, _, _, _, rfl, h⟩
    · replace h := h.2 (is_dec.f hc)
      refine w_exit ?_
      refine then_exit ?_
      refine loop_exit ?_
      refine block_exit ?_
      refine then_norm ?_
      refine w_seq ?_
      refine w_run [1, 1] ?_
      refine t_build true [(.int .i64 0), (.int .i64 0)] [] [] [(.int .i64 0), (.int .i64 0)] H15 (by kernel_rfl) (by kernel_rfl) ?_
      refine t_upd true 2 0 [(.int .i64 v8), (.int .i64 v9)] (.agg [(.int .i64 0), (.int .i64 0)]) [(.int .i64 0), (.int .i64 0)] [(.int .i64 0), (.int .i64 0)] H15 (by kernel_rfl) rfl (all_c rfl (all_c rfl all_n)) ⟨rfl, Nat.le_of_ble_eq_true (by kernel_rfl), rfl⟩ ?_
      refine t_done [proof0, (.int .i64 from1), (.agg [(.int .i64 0), (.int .i64 0)]), (.bool (decide ((len3 : Int) > 64))), (.int .i64 v10), (.int .i64 (len4 : Int)), (.bool (decide (v10 < (len4 : Int)))), proof0, d12, d13, d14] H15 (by kernel_rfl) ?_
      refine then_norm ?_
      refine w_ret ?_
      exact body_ret (vs := [(.agg [(.int .i64 0), (.int .i64 0)])]) _ (by kernel_rfl) rfl h

def rf_translog_Verify (nsigning_IsDigest ntranslog_ranges ntranslog_proofFault ntranslog_reader_include ntranslog_reader_done : Nat) : RFunc := ⟨5, 13, [.var 5, .part 6 (some 2)],
 ((.seq (.ops [⟨.move (.k (.bool false)), none, (some 5), true⟩, ⟨.tomb 1 (.k (.agg [.int .i64 0, .int .i64 0])), none, (some 6), true⟩])
 ((.seq ((.seq (.ops [⟨.move (.var 0), none, none, true⟩, ⟨.callS nsigning_IsDigest [(.loc 0)], none, none, true⟩, ⟨.move (.var 1), none, none, true⟩, ⟨.bin .geq .no (.loc 2) (.k (.int .i64 1)), none, none, true⟩, ⟨.move (.loc 3), none, none, true⟩, ⟨.move (.var 1), none, none, true⟩, ⟨.bin .leq .no (.loc 5) (.k (.int .i64 64)), none, none, true⟩, ⟨.pick (.loc 4) (.loc 6) (.k (.bool false)), none, none, true⟩, ⟨.move (.var 2), none, none, true⟩, ⟨.bin .geq .no (.loc 8) (.k (.int .i64 0)), none, none, true⟩, ⟨.move (.loc 9), none, none, true⟩, ⟨.move (.var 2), none, none, true⟩, ⟨.move (.var 1), none, none, true⟩, ⟨.bin .lss .no (.loc 11) (.loc 12), none, none, true⟩, ⟨.pick (.loc 10) (.loc 13) (.k (.bool false)), none, none, true⟩, ⟨.move (.var 3), none, none, true⟩, ⟨.callS nsigning_IsDigest [(.loc 15)], none, none, true⟩, ⟨.buildSlice 1 [.bool false] [(0, 1, (.loc 1)), (1, 1, (.loc 7)), (2, 1, (.loc 14)), (3, 1, (.loc 16))] 4, none, none, true⟩, ⟨.callS ntranslog_ranges [(.loc 17)], none, none, true⟩, ⟨.tomb 1 (.k (.agg [.int .i64 0, .int .i64 0])), none, (some 7), true⟩, ⟨.upd 2 0 (.loc 19) (.loc 18), none, (some 7), true⟩])
 ((.seq (.ops [⟨.field 0 (some 2) (.var 7), none, none, true⟩, ⟨.build [.int .i64 0, .int .i64 0] [], none, none, true⟩, ⟨.bin .neq (.agg [.int, .int]) (.loc 0) (.loc 1), none, (some 8), true⟩])
 (.cond (.var 8) ((.seq (.ops [⟨.field 0 (some 2) (.var 7), none, none, true⟩, ⟨.move (.k (.bool false)), none, (some 5), false⟩, ⟨.upd 2 0 (.var 6) (.loc 0), none, (some 6), true⟩])
 (.ret))) (.skip))))))
 ((.seq ((.seq (.ops [⟨.move (.var 4), none, none, true⟩, ⟨.callS ntranslog_proofFault [(.loc 0), (.k (.int .i64 4))], none, none, true⟩, ⟨.tomb 1 (.k (.agg [.int .i64 0, .int .i64 0])), none, (some 9), true⟩, ⟨.upd 2 0 (.loc 2) (.loc 1), none, (some 9), true⟩])
 ((.seq (.ops [⟨.field 0 (some 2) (.var 9), none, none, true⟩, ⟨.build [.int .i64 0, .int .i64 0] [], none, none, true⟩, ⟨.bin .neq (.agg [.int, .int]) (.loc 0) (.loc 1), none, (some 10), true⟩])
 (.cond (.var 10) ((.seq (.ops [⟨.field 0 (some 2) (.var 9), none, none, true⟩, ⟨.move (.k (.bool false)), none, (some 5), false⟩, ⟨.upd 2 0 (.var 6) (.loc 0), none, (some 6), true⟩])
 (.ret))) (.skip))))))
 ((.seq (.ops [⟨.move (.var 4), none, none, true⟩, ⟨.build [.empty, .bool false] [(0, 1, (.loc 0)), (1, 1, (.k (.bool true)))], none, none, true⟩, ⟨.box 1 (.loc 1), none, none, true⟩, ⟨.move (.loc 2), none, (some 11), true⟩])
 ((.seq (.ops [⟨.move (.var 11), none, none, true⟩, ⟨.move (.var 1), none, none, true⟩, ⟨.move (.var 2), none, none, true⟩, ⟨.move (.var 3), none, none, true⟩, ⟨.callS ntranslog_reader_include [(.loc 0), (.loc 1), (.loc 2), (.loc 3)], none, none, true⟩, ⟨.move (.loc 4), none, (some 12), true⟩])
 ((.seq (.ops [⟨.move (.var 11), none, none, true⟩, ⟨.callS ntranslog_reader_done [(.loc 0)], none, none, true⟩, ⟨.move (.loc 1), none, none, true⟩, ⟨.move (.var 12), none, none, true⟩, ⟨.move (.var 0), none, none, true⟩, ⟨.bin .eql .no (.loc 3) (.loc 4), none, none, true⟩, ⟨.pick (.loc 2) (.loc 5) (.k (.bool false)), none, none, true⟩, ⟨.build [.int .i64 0, .int .i64 0] [], none, none, true⟩, ⟨.move (.loc 6), none, (some 5), true⟩, ⟨.upd 2 0 (.var 6) (.loc 7), none, (some 6), true⟩])
 (.ret))))))))))))), none⟩
theorem v_translog_Verify {F : Nat → Option RFunc} {me nsigning_IsDigest ntranslog_ranges ntranslog_proofFault ntranslog_reader_include ntranslog_reader_done : Nat} (hF : F me = some (rf_translog_Verify nsigning_IsDigest ntranslog_ranges ntranslog_proofFault ntranslog_reader_include ntranslog_reader_done)) {fl : Nat} {H : Heap} {Q : AV → Heap → Prop} (root0 : Int) (n1 : Int) (i2 : Int) (leaf3 : Int) (proof4 : AV)
  (h : ∀ (H5 : Heap), Dead1 H 1 H5 → Ret F fl nsigning_IsDigest [(.int .i64 root0)] H5 (fun v8 H7 => ∃ (r6 : Bool), v8 = (.bool r6) ∧ Ret F fl nsigning_IsDigest [(.int .i64 leaf3)] H7 (fun v11 H10 => ∃ (r9 : Bool), v11 = (.bool r9) ∧ ∀ (b12 : Nat) (H13 : Heap), NewB H10 1 [(.bool r6), (.bool ((decide (n1 ≥ 1)) && (decide (n1 ≤ 64)))), (.bool ((decide (i2 ≥ 0)) && (decide (i2 < n1)))), (.bool r9)] b12 H13 → Ret F fl ntranslog_ranges [(.slice b12 0 4 (some 4))] H13 (fun v17 H16 => ∃ (r14 : Int) (r15 : Int), v17 = (.agg [(.int .i64 r14), (.int .i64 r15)]) ∧ ∀ (H18 : Heap), Dead1 H16 1 H18 → ((¬(((r14 = 0) ∧ (((r15 = 0) ∧ (True)))))) → Q (.tuple [(.bool false), (.agg [(.int .i64 r14), (.int .i64 r15)])]) H18) ∧ (¬(¬(((r14 = 0) ∧ (((r15 = 0) ∧ (True)))))) → Ret F fl ntranslog_proofFault [proof4, (.int .i64 4)] H18 (fun v22 H21 => ∃ (r19 : Int) (r20 : Int), v22 = (.agg [(.int .i64 r19), (.int .i64 r20)]) ∧ ∀ (H23 : Heap), Dead1 H21 1 H23 → ((¬(((r19 = 0) ∧ (((r20 = 0) ∧ (True)))))) → Q (.tuple [(.bool false), (.agg [(.int .i64 r19), (.int .i64 r20)])]) H23) ∧ (¬(¬(((r19 = 0) ∧ (((r20 = 0) ∧ (True)))))) → Scal proof4 ∧ ∀ (b25 : Nat) (H26 : Heap), NewB H23 1 [proof4, (.bool true)] b25 H26 → Ret F fl ntranslog_reader_include [(.ptr b25 0), (.int .i64 n1), (.int .i64 i2), (.int .i64 leaf3)] H26 (fun v29 H28 => ∃ (r27 : Int), v29 = (.int .i64 r27) ∧ Ret F fl ntranslog_reader_done [(.ptr b25 0)] H28 (fun v32 H31 => ∃ (r30 : Bool), v32 = (.bool r30) ∧ Q (.tuple [(.bool (r30 && ((r27) == root0))), (.agg [(.int .i64 0), (.int .i64 0)])]) H31))))))))) : Ret F fl me [(.int .i64 root0), (.int .i64 n1), (.int .i64 i2), (.int .i64 leaf3), proof4] H Q := by
  refine ret_intro hF rfl ?_
  refine w_seq ?_
  refine w_run [0, 1] ?_
  obtain ⟨H5, hb⟩ : ∃ H', Dead1 H 1 H' := ⟨_, ⟨rfl⟩⟩
  replace h := h H5 hb
  refine t_tomb true 1 (.agg [(.int .i64 0), (.int .i64 0)]) [(.int .i64 0), (.int .i64 0)] H5 H (by kernel_rfl) rfl hb ?_
  refine t_done [(.int .i64 root0), (.int .i64 n1), (.int .i64 i2), (.int .i64 leaf3), proof4, (.bool false), (.agg [(.int .i64 0), (.int .i64 0)]), .undef, .undef, .undef, .undef, .undef, .undef] H5 (by kernel_rfl) ?_
  refine then_norm ?_
  refine w_seq ?_
  refine w_seq ?_
  refine w_run [0, 1, 0, 0, 0, 0, 0, 0, 0, 0, 0, 0, 0, 0, 0, 0, 1, 1, 1, 1, 1] ?_
  refine t_call true nsigning_IsDigest [(.int .i64 root0)] H5 (by kernel_rfl) h ?_
  clear h
  rintro _ H7 ⟨r6, rfl, h⟩
  refine t_call true nsigning_IsDigest [(.int .i64 leaf3)] H7 (by kernel_rfl) h ?_
  clear h
  rintro _ H10 ⟨r9, rfl, h⟩
  obtain ⟨b12, H13, hb⟩ : ∃ b H', NewB H10 1 [(.bool r6), (.bool ((decide (n1 ≥ 1)) && (decide (n1 ≤ 64)))), (.bool ((decide (i2 ≥ 0)) && (decide (i2 < n1)))), (.bool r9)] b H' := ⟨_, _, rfl, rfl⟩
  replace h := h b12 H13 hb
  refine t_bs true 1 [(.bool false)] [(0, 1, .loc 0), (1, 1, .loc 1), (2, 1, .loc 2), (3, 1, .loc 3)] 4 [(.bool r6), (.bool ((decide (n1 ≥ 1)) && (decide (n1 ≤ 64)))), (.bool ((decide (i2 ≥ 0)) && (decide (i2 < n1)))), (.bool r9)] [(.bool r6), (.bool ((decide (n1 ≥ 1)) && (decide (n1 ≤ 64)))), (.bool ((decide (i2 ≥ 0)) && (decide (i2 < n1)))), (.bool r9)] b12 H13 H10 (by kernel_rfl) (fill_c (vs := [(.bool r6)]) (size := 1) rfl (by kernel_rfl) (by kernel_rfl) (fill_c (vs := [(.bool ((decide (n1 ≥ 1)) && (decide (n1 ≤ 64))))]) (size := 1) rfl (by kernel_rfl) (by kernel_rfl) (fill_c (vs := [(.bool ((decide (i2 ≥ 0)) && (decide (i2 < n1))))]) (size := 1) rfl (by kernel_rfl) (by kernel_rfl) (fill_c (vs := [(.bool r9)]) (size := 1) rfl (by kernel_rfl) (by kernel_rfl) (by kernel_rfl))))) hb ?_
  refine t_call true ntranslog_ranges [(.slice b12 0 4 (some 4))] H13 (by kernel_rfl) h ?_
  clear h
  rintro _ H16 ⟨r14, r15, rfl, h⟩
  obtain ⟨H18, hb⟩ : ∃ H', Dead1 H16 1 H' := ⟨_, ⟨rfl⟩⟩
  replace h := h H18 hb
  refine t_tomb true 1 (.agg [(.int .i64 0), (.int .i64 0)]) [(.int .i64 0), (.int .i64 0)] H18 H16 (by kernel_rfl) rfl hb ?_
  refine t_upd true 2 0 [(.int .i64 0), (.int .i64 0)] (.agg [(.int .i64 r14), (.int .i64 r15)]) [(.int .i64 r14), (.int .i64 r15)] [(.int .i64 r14), (.int .i64 r15)] H18 (by kernel_rfl) rfl (all_c rfl (all_c rfl all_n)) ⟨rfl, Nat.le_of_ble_eq_true (by kernel_rfl), rfl⟩ ?_
  refine t_done [(.int .i64 root0), (.int .i64 n1), (.int .i64 i2), (.int .i64 leaf3), proof4, (.bool false), (.agg [(.int .i64 0), (.int .i64 0)]), (.agg [(.int .i64 r14), (.int .i64 r15)]), .undef, .undef, .undef, .undef, .undef] H18 (by kernel_rfl) ?_
  refine then_norm ?_
  refine w_seq ?_
  refine w_run [0, 1, 0] ?_
  refine t_build true [(.int .i64 0), (.int .i64 0)] [] [] [(.int .i64 0), (.int .i64 0)] H18 (by kernel_rfl) (by kernel_rfl) ?_
  refine t_done [(.int .i64 root0), (.int .i64 n1), (.int .i64 i2), (.int .i64 leaf3), proof4, (.bool false), (.agg [(.int .i64 0), (.int .i64 0)]), (.agg [(.int .i64 r14), (.int .i64 r15)]), (.bool (!(((r14) == 0) && (((r15) == 0) && true)))), .undef, .undef, .undef, .undef] H18 (by kernel_rfl) ?_
  refine then_norm ?_
  refine w_cond (t := (!(((r14) == 0) && (((r15) == 0) && true)))) rfl (fun hc => ?_) (fun hc => ?_)
  · replace h := h.1 ((is_not (is_and is_eq (is_and is_eq is_true))).t hc)
    refine w_seq ?_
    refine w_run [0, 0, 1] ?_
    refine t_upd true 2 0 [(.int .i64 0), (.int .i64 0)] (.agg [(.int .i64 r14), (.int .i64 r15)]) [(.int .i64 r14), (.int .i64 r15)] [(.int .i64 r14), (.int .i64 r15)] H18 (by kernel_rfl) rfl (all_c rfl (all_c rfl all_n)) ⟨rfl, Nat.le_of_ble_eq_true (by kernel_rfl), rfl⟩ ?_
    refine t_done [(.int .i64 root0), (.int .i64 n1), (.int .i64 i2), (.int .i64 leaf3), proof4, (.bool false), (.agg [(.int .i64 r14), (.int .i64 r15)]), (.agg [(.int .i64 r14), (.int .i64 r15)]), (.bool (!(((r14) == 0) && (((r15) == 0) && true)))), .undef, .undef, .undef, .undef] H18 (by kernel_rfl) ?_
    refine then_norm ?_
    refine w_ret ?_
    refine then_ret ?_
    exact body_ret (vs := [(.bool false), (.agg [(.int .i64 r14), (.int .i64 r15)])]) _ (by kernel_rfl) rfl h
  · replace h := h.2 ((is_not (is_and is_eq (is_and is_eq is_true))).f hc)
    refine w_skip ?_
    refine then_norm ?_
    refine w_seq ?_
    refine w_seq ?_
    refine w_run [0, 1, 1, 1] ?_
    refine t_call true ntranslog_proofFault [proof4, (.int .i64 4)] H18 (by kernel_rfl) h ?_
    clear h
    rintro _ H21 ⟨r19, r20, rfl, h⟩
    obtain ⟨H23, hb⟩ : ∃ H', Dead1 H21 1 H' := ⟨_, ⟨rfl⟩⟩
    replace h := h H23 hb
    refine t_tomb true 1 (.agg [(.int .i64 0), (.int .i64 0)]) [(.int .i64 0), (.int .i64 0)] H23 H21 (by kernel_rfl) rfl hb ?_
    refine t_upd true 2 0 [(.int .i64 0), (.int .i64 0)] (.agg [(.int .i64 r19), (.int .i64 r20)]) [(.int .i64 r19), (.int .i64 r20)] [(.int .i64 r19), (.int .i64 r20)] H23 (by kernel_rfl) rfl (all_c rfl (all_c rfl all_n)) ⟨rfl, Nat.le_of_ble_eq_true (by kernel_rfl), rfl⟩ ?_
    refine t_done [(.int .i64 root0), (.int .i64 n1), (.int .i64 i2), (.int .i64 leaf3), proof4, (.bool false), (.agg [(.int .i64 0), (.int .i64 0)]), (.agg [(.int .i64 r14), (.int .i64 r15)]), (.bool (!(((r14) == 0) && (((r15) == 0) && true)))), (.agg [(.int .i64 r19), (.int .i64 r20)]), .undef, .undef, .undef] H23 (by kernel_rfl) ?_
    refine then_norm ?_
    refine w_seq ?_
    refine w_run [0, 1, 0] ?_
    refine t_build true [(.int .i64 0), (.int .i64 0)] [] [] [(.int .i64 0), (.int .i64 0)] H23 (by kernel_rfl) (by kernel_rfl) ?_
    refine t_done [(.int .i64 root0), (.int .i64 n1), (.int .i64 i2), (.int .i64 leaf3), proof4, (.bool false), (.agg [(.int .i64 0), (.int .i64 0)]), (.agg [(.int .i64 r14), (.int .i64 r15)]), (.bool (!(((r14) == 0) && (((r15) == 0) && true)))), (.agg [(.int .i64 r19), (.int .i64 r20)]), (.bool (!(((r19) == 0) && (((r20) == 0) && true)))), .undef, .undef] H23 (by kernel_rfl) ?_
    refine then_norm ?_
    refine w_cond (t := (!(((r19) == 0) && (((r20) == 0) && true)))) rfl (fun hc => ?_) (fun hc => ?_)
    · replace h := h.1 ((is_not (is_and is_eq (is_and is_eq is_true))).t hc)
      refine w_seq ?_
      refine w_run [0, 0, 1] ?_
      refine t_upd true 2 0 [(.int .i64 0), (.int .i64 0)] (.agg [(.int .i64 r19), (.int .i64 r20)]) [(.int .i64 r19), (.int .i64 r20)] [(.int .i64 r19), (.int .i64 r20)] H23 (by kernel_rfl) rfl (all_c rfl (all_c rfl all_n)) ⟨rfl, Nat.le_of_ble_eq_true (by kernel_rfl), rfl⟩ ?_
      refine t_done [(.int .i64 root0), (.int .i64 n1), (.int .i64 i2), (.int .i64 leaf3), proof4, (.bool false), (.agg [(.int .i64 r19), (.int .i64 r20)]), (.agg [(.int .i64 r14), (.int .i64 r15)]), (.bool (!(((r14) == 0) && (((r15) == 0) && true)))), (.agg [(.int .i64 r19), (.int .i64 r20)]), (.bool (!(((r19) == 0) && (((r20) == 0) && true)))), .undef, .undef] H23 (by kernel_rfl) ?_
      refine then_norm ?_
      refine w_ret ?_
      refine then_ret ?_
      exact body_ret (vs := [(.bool false), (.agg [(.int .i64 r19), (.int .i64 r20)])]) _ (by kernel_rfl) rfl h
    · replace h := h.2 ((is_not (is_and is_eq (is_and is_eq is_true))).f hc)
      refine w_skip ?_
      refine then_norm ?_
      refine w_seq ?_
      refine w_run [0, 1, 1, 0] ?_
      obtain ⟨hs24, h⟩ := h
      refine t_build true [.empty, (.bool false)] [(0, 1, .loc 0), (1, 1, .loc 1)] [proof4, (.bool true)] [proof4, (.bool true)] H23 (by kernel_rfl) (fill_c (vs := [proof4]) (size := 1) hs24.1 (by kernel_rfl) (by kernel_rfl) (fill_c (vs := [(.bool true)]) (size := 1) rfl (by kernel_rfl) (by kernel_rfl) (by kernel_rfl))) ?_
      obtain ⟨b25, H26, hb⟩ : ∃ b H', NewB H23 1 [proof4, (.bool true)] b H' := ⟨_, _, rfl, rfl⟩
      replace h := h b25 H26 hb
      refine t_box true 1 (.agg [proof4, (.bool true)]) [proof4, (.bool true)] b25 H26 H23 (by kernel_rfl) rfl hb ?_
      refine t_done [(.int .i64 root0), (.int .i64 n1), (.int .i64 i2), (.int .i64 leaf3), proof4, (.bool false), (.agg [(.int .i64 0), (.int .i64 0)]), (.agg [(.int .i64 r14), (.int .i64 r15)]), (.bool (!(((r14) == 0) && (((r15) == 0) && true)))), (.agg [(.int .i64 r19), (.int .i64 r20)]), (.bool (!(((r19) == 0) && (((r20) == 0) && true)))), (.ptr b25 0), .undef] H26 (by kernel_rfl) ?_
      refine then_norm ?_
      refine w_seq ?_
      refine w_run [0, 0, 0, 0, 1, 0] ?_
      refine t_call true ntranslog_reader_include [(.ptr b25 0), (.int .i64 n1), (.int .i64 i2), (.int .i64 leaf3)] H26 (by kernel_rfl) h ?_
      clear h
      rintro _ H28 ⟨r27, rfl, h⟩
      refine t_done [(.int .i64 root0), (.int .i64 n1), (.int .i64 i2), (.int .i64 leaf3), proof4, (.bool false), (.agg [(.int .i64 0), (.int .i64 0)]), (.agg [(.int .i64 r14), (.int .i64 r15)]), (.bool (!(((r14) == 0) && (((r15) == 0) && true)))), (.agg [(.int .i64 r19), (.int .i64 r20)]), (.bool (!(((r19) == 0) && (((r20) == 0) && true)))), (.ptr b25 0), (.int .i64 r27)] H28 (by kernel_rfl) ?_
      refine then_norm ?_
      refine w_seq ?_
      refine w_run [0, 1, 0, 0, 0, 0, 0, 1, 0, 1] ?_
      refine t_call true ntranslog_reader_done [(.ptr b25 0)] H28 (by kernel_rfl) h ?_
      clear h
      rintro _ H31 ⟨r30, rfl, h⟩
      refine t_build true [(.int .i64 0), (.int .i64 0)] [] [] [(.int .i64 0), (.int .i64 0)] H31 (by kernel_rfl) (by kernel_rfl) ?_
      refine t_upd true 2 0 [(.int .i64 0), (.int .i64 0)] (.agg [(.int .i64 0), (.int .i64 0)]) [(.int .i64 0), (.int .i64 0)] [(.int .i64 0), (.int .i64 0)] H31 (by kernel_rfl) rfl (all_c rfl (all_c rfl all_n)) ⟨rfl, Nat.le_of_ble_eq_true (by kernel_rfl), rfl⟩ ?_
      refine t_done [(.int .i64 root0), (.int .i64 n1), (.int .i64 i2), (.int .i64 leaf3), proof4, (.bool (r30 && ((r27) == root0))), (.agg [(.int .i64 0), (.int .i64 0)]), (.agg [(.int .i64 r14), (.int .i64 r15)]), (.bool (!(((r14) == 0) && (((r15) == 0) && true)))), (.agg [(.int .i64 r19), (.int .i64 r20)]), (.bool (!(((r19) == 0) && (((r20) == 0) && true)))), (.ptr b25 0), (.int .i64 r27)] H31 (by kernel_rfl) ?_
      refine then_norm ?_
      refine w_ret ?_
      exact body_ret (vs := [(.bool (r30 && ((r27) == root0))), (.agg [(.int .i64 0), (.int .i64 0)])]) _ (by kernel_rfl) rfl h

def rf_audit_Checkpoint (naudit_Validate naudit_chains ntranslog_Root : Nat) : RFunc := ⟨1, 5, [.var 1, .part 2 (some 2)],
 ((.seq (.ops [⟨.move (.k (.int .i64 0)), none, (some 1), true⟩, ⟨.tomb 1 (.k (.agg [.int .i64 0, .int .i64 0])), none, (some 2), true⟩])
 ((.seq ((.seq (.ops [⟨.move (.var 0), none, none, true⟩, ⟨.callS naudit_Validate [(.loc 0)], none, none, true⟩, ⟨.tomb 1 (.k (.agg [.int .i64 0, .int .i64 0])), none, (some 3), true⟩, ⟨.upd 2 0 (.loc 2) (.loc 1), none, (some 3), true⟩])
 ((.seq (.ops [⟨.field 0 (some 2) (.var 3), none, none, true⟩, ⟨.build [.int .i64 0, .int .i64 0] [], none, none, true⟩, ⟨.bin .neq (.agg [.int, .int]) (.loc 0) (.loc 1), none, (some 4), true⟩])
 (.cond (.var 4) ((.seq (.ops [⟨.field 0 (some 2) (.var 3), none, none, true⟩, ⟨.move (.k (.int .i64 0)), none, (some 1), false⟩, ⟨.upd 2 0 (.var 2) (.loc 0), none, (some 2), true⟩])
 (.ret))) (.skip))))))
 ((.seq (.ops [⟨.move (.var 0), none, none, true⟩, ⟨.callS naudit_chains [(.loc 0)], none, none, true⟩, ⟨.callS ntranslog_Root [(.loc 1)], none, none, true⟩, ⟨.extract (.loc 2) 0, none, none, true⟩, ⟨.extract (.loc 2) 1, none, none, true⟩, ⟨.move (.loc 3), none, (some 1), true⟩, ⟨.upd 2 0 (.var 2) (.loc 4), none, (some 2), true⟩])
 (.ret))))))), none⟩
theorem v_audit_Checkpoint {F : Nat → Option RFunc} {me naudit_Validate naudit_chains ntranslog_Root : Nat} (hF : F me = some (rf_audit_Checkpoint naudit_Validate naudit_chains ntranslog_Root)) {fl : Nat} {H : Heap} {Q : AV → Heap → Prop} (log0 : AV)
  (h : ∀ (H1 : Heap), Dead1 H 1 H1 → Ret F fl naudit_Validate [log0] H1 (fun v5 H4 => ∃ (r2 : Int) (r3 : Int), v5 = (.agg [(.int .i64 r2), (.int .i64 r3)]) ∧ ∀ (H6 : Heap), Dead1 H4 1 H6 → ((¬(((r2 = 0) ∧ (((r3 = 0) ∧ (True)))))) → Q (.tuple [(.int .i64 0), (.agg [(.int .i64 r2), (.int .i64 r3)])]) H6) ∧ (¬(¬(((r2 = 0) ∧ (((r3 = 0) ∧ (True)))))) → Ret F fl naudit_chains [log0] H6 (fun r7 H8 => Ret F fl ntranslog_Root [r7] H8 (fun v14 H13 => ∃ (r10 : Int) (r11 : Int) (r12 : Int), v14 = (.tuple [(.int .i64 r10), (.agg [(.int .i64 r11), (.int .i64 r12)])]) ∧ Q (.tuple [(.int .i64 r10), (.agg [(.int .i64 r11), (.int .i64 r12)])]) H13))))) : Ret F fl me [log0] H Q := by
  refine ret_intro hF rfl ?_
  refine w_seq ?_
  refine w_run [0, 1] ?_
  obtain ⟨H1, hb⟩ : ∃ H', Dead1 H 1 H' := ⟨_, ⟨rfl⟩⟩
  replace h := h H1 hb
  refine t_tomb true 1 (.agg [(.int .i64 0), (.int .i64 0)]) [(.int .i64 0), (.int .i64 0)] H1 H (by kernel_rfl) rfl hb ?_
  refine t_done [log0, (.int .i64 0), (.agg [(.int .i64 0), (.int .i64 0)]), .undef, .undef] H1 (by kernel_rfl) ?_
  refine then_norm ?_
  refine w_seq ?_
  refine w_seq ?_
  refine w_run [0, 1, 1, 1] ?_
  refine t_call true naudit_Validate [log0] H1 (by kernel_rfl) h ?_
  clear h
  rintro _ H4 ⟨r2, r3, rfl, h⟩
  obtain ⟨H6, hb⟩ : ∃ H', Dead1 H4 1 H' := ⟨_, ⟨rfl⟩⟩
  replace h := h H6 hb
  refine t_tomb true 1 (.agg [(.int .i64 0), (.int .i64 0)]) [(.int .i64 0), (.int .i64 0)] H6 H4 (by kernel_rfl) rfl hb ?_
  refine t_upd true 2 0 [(.int .i64 0), (.int .i64 0)] (.agg [(.int .i64 r2), (.int .i64 r3)]) [(.int .i64 r2), (.int .i64 r3)] [(.int .i64 r2), (.int .i64 r3)] H6 (by kernel_rfl) rfl (all_c rfl (all_c rfl all_n)) ⟨rfl, Nat.le_of_ble_eq_true (by kernel_rfl), rfl⟩ ?_
  refine t_done [log0, (.int .i64 0), (.agg [(.int .i64 0), (.int .i64 0)]), (.agg [(.int .i64 r2), (.int .i64 r3)]), .undef] H6 (by kernel_rfl) ?_
  refine then_norm ?_
  refine w_seq ?_
  refine w_run [0, 1, 0] ?_
  refine t_build true [(.int .i64 0), (.int .i64 0)] [] [] [(.int .i64 0), (.int .i64 0)] H6 (by kernel_rfl) (by kernel_rfl) ?_
  refine t_done [log0, (.int .i64 0), (.agg [(.int .i64 0), (.int .i64 0)]), (.agg [(.int .i64 r2), (.int .i64 r3)]), (.bool (!(((r2) == 0) && (((r3) == 0) && true))))] H6 (by kernel_rfl) ?_
  refine then_norm ?_
  refine w_cond (t := (!(((r2) == 0) && (((r3) == 0) && true)))) rfl (fun hc => ?_) (fun hc => ?_)
  · replace h := h.1 ((is_not (is_and is_eq (is_and is_eq is_true))).t hc)
    refine w_seq ?_
    refine w_run [0, 0, 1] ?_
    refine t_upd true 2 0 [(.int .i64 0), (.int .i64 0)] (.agg [(.int .i64 r2), (.int .i64 r3)]) [(.int .i64 r2), (.int .i64 r3)] [(.int .i64 r2), (.int .i64 r3)] H6 (by kernel_rfl) rfl (all_c rfl (all_c rfl all_n)) ⟨rfl, Nat.le_of_ble_eq_true (by kernel_rfl), rfl⟩ ?_
    refine t_done [log0, (.int .i64 0), (.agg [(.int .i64 r2), (.int .i64 r3)]), (.agg [(.int .i64 r2), (.int .i64 r3)]), (.bool (!(((r2) == 0) && (((r3) == 0) && true))))] H6 (by kernel_rfl) ?_
    refine then_norm ?_
    refine w_ret ?_
    refine then_ret ?_
    exact body_ret (vs := [(.int .i64 0), (.agg [(.int .i64 r2), (.int .i64 r3)])]) _ (by kernel_rfl) rfl h
  · replace h := h.2 ((is_not (is_and is_eq (is_and is_eq is_true))).f hc)
    refine w_skip ?_
    refine then_norm ?_
    refine w_seq ?_
    refine w_run [0, 1, 1, 0, 0, 0, 1] ?_
    refine t_call true naudit_chains [log0] H6 (by kernel_rfl) h ?_
    clear h
    rintro r7 H8 h
    refine t_call true ntranslog_Root [r7] H8 (by kernel_rfl) h ?_
    clear h
    rintro _ H13 ⟨r10, r11, r12, rfl, h⟩
    refine t_upd true 2 0 [(.int .i64 0), (.int .i64 0)] (.agg [(.int .i64 r11), (.int .i64 r12)]) [(.int .i64 r11), (.int .i64 r12)] [(.int .i64 r11), (.int .i64 r12)] H13 (by kernel_rfl) rfl (all_c rfl (all_c rfl all_n)) ⟨rfl, Nat.le_of_ble_eq_true (by kernel_rfl), rfl⟩ ?_
    refine t_done [log0, (.int .i64 r10), (.agg [(.int .i64 r11), (.int .i64 r12)]), (.agg [(.int .i64 r2), (.int .i64 r3)]), (.bool (!(((r2) == 0) && (((r3) == 0) && true))))] H13 (by kernel_rfl) ?_
    refine then_norm ?_
    refine w_ret ?_
    exact body_ret (vs := [(.int .i64 r10), (.agg [(.int .i64 r11), (.int .i64 r12)])]) _ (by kernel_rfl) rfl h

def rf_audit_Includes (naudit_inRange nsigning_IsDigest ntranslog_Verify naudit_chain : Nat) : RFunc := ⟨6, 12, [.var 6, .part 7 (some 2)],
 ((.seq (.ops [⟨.tomb 1 (.var 4), none, (some 8), true⟩, ⟨.move (.k (.bool false)), none, (some 6), true⟩, ⟨.tomb 1 (.k (.agg [.int .i64 0, .int .i64 0])), none, (some 7), true⟩])
 ((.seq ((.seq (.ops [⟨.field 0 (some 4) (.var 8), none, none, true⟩, ⟨.callS naudit_inRange [(.loc 0)], none, none, true⟩, ⟨.un .not (.loc 1), none, none, true⟩, ⟨.move (.loc 2), none, none, true⟩, ⟨.move (.var 3), none, none, true⟩, ⟨.callS nsigning_IsDigest [(.loc 4)], (some (3, false)), none, true⟩, ⟨.un .not (.loc 5), (some (3, false)), none, true⟩, ⟨.pick (.loc 3) (.k (.bool true)) (.loc 6), none, (some 9), true⟩])
 (.cond (.var 9) ((.seq (.ops [⟨.build [.int .i64 0, .int .i64 0] [(0, 1, (.k (.int .i64 3))), (1, 1, (.k (.int .i64 (-2))))], none, none, true⟩, ⟨.move (.k (.bool false)), none, (some 6), true⟩, ⟨.upd 2 0 (.var 7) (.loc 0), none, (some 7), true⟩])
 (.ret))) (.skip))))
 ((.seq (.ops [⟨.move (.var 0), none, none, true⟩, ⟨.move (.var 1), none, none, true⟩, ⟨.move (.var 2), none, none, true⟩, ⟨.field 0 none (.var 8), none, none, true⟩, ⟨.field 3 none (.var 8), none, none, true⟩, ⟨.move (.var 5), none, none, true⟩, ⟨.callS ntranslog_Verify [(.loc 0), (.loc 1), (.loc 2), (.loc 4), (.loc 5)], none, none, true⟩, ⟨.move (.loc 6), none, none, true⟩, ⟨.extract (.loc 7) 0, none, none, true⟩, ⟨.extract (.loc 7) 1, none, none, true⟩, ⟨.tomb 1 (.k (.agg [.int .i64 0, .int .i64 0])), none, (some 11), true⟩, ⟨.move (.loc 8), none, (some 10), true⟩, ⟨.upd 2 0 (.loc 10) (.loc 9), none, (some 11), true⟩])
 ((.seq (.ops [⟨.move (.var 10), none, none, false⟩, ⟨.move (.loc 0), none, none, false⟩, ⟨.field 0 none (.var 8), none, none, false⟩, ⟨.field 3 none (.var 8), none, none, false⟩, ⟨.move (.var 3), none, none, false⟩, ⟨.field 0 (some 4) (.var 8), none, none, false⟩, ⟨.callS naudit_chain [(.loc 4), (.loc 5)], (some (1, true)), none, false⟩, ⟨.bin .eql .no (.loc 3) (.loc 6), (some (1, true)), none, false⟩, ⟨.pick (.loc 1) (.loc 7) (.k (.bool false)), none, none, false⟩, ⟨.field 0 (some 2) (.var 11), none, none, false⟩, ⟨.move (.loc 8), none, (some 6), false⟩, ⟨.upd 2 0 (.var 7) (.loc 9), none, (some 7), true⟩])
 (.ret))))))))), none⟩
theorem v_audit_Includes {F : Nat → Option RFunc} {me naudit_inRange nsigning_IsDigest ntranslog_Verify naudit_chain : Nat} (hF : F me = some (rf_audit_Includes naudit_inRange nsigning_IsDigest ntranslog_Verify naudit_chain)) {fl : Nat} {H : Heap} {Q : AV → Heap → Prop} (checkpoint0 : Int) (n1 : Int) (i2 : Int) (before3 : Int) (r4 : Int) (r5 : Int) (r6 : Int) (r7 : Int) (proof8 : AV)
  (h : ∀ (H9 : Heap), Dead1 H 1 H9 → ∀ (H10 : Heap), Dead1 H9 1 H10 → Ret F fl naudit_inRange [(.agg [(.int .i64 r4), (.int .i64 r5), (.int .i64 r6), (.int .i64 r7)])] H10 (fun v13 H12 => ∃ (r11 : Bool), v13 = (.bool r11) ∧ ((¬(r11 = true)) → Q (.tuple [(.bool false), (.agg [(.int .i64 3), (.int .i64 (-2))])]) H12) ∧ (¬(¬(r11 = true)) → Ret F fl nsigning_IsDigest [(.int .i64 before3)] H12 (fun v16 H15 => ∃ (r14 : Bool), v16 = (.bool r14) ∧ ((¬(r14 = true)) → Q (.tuple [(.bool false), (.agg [(.int .i64 3), (.int .i64 (-2))])]) H15) ∧ (¬(¬(r14 = true)) → Ret F fl ntranslog_Verify [(.int .i64 checkpoint0), (.int .i64 n1), (.int .i64 i2), (.int .i64 r7), proof8] H15 (fun v21 H20 => ∃ (r17 : Bool) (r18 : Int) (r19 : Int), v21 = (.tuple [(.bool r17), (.agg [(.int .i64 r18), (.int .i64 r19)])]) ∧ ∀ (H22 : Heap), Dead1 H20 1 H22 → ((r17 = true) → Ret F H22.length naudit_chain [(.int .i64 before3), (.agg [(.int .i64 r4), (.int .i64 r5), (.int .i64 r6), (.int .i64 r7)])] H22 (fun v25 H24 => ∃ (r23 : Int), v25 = (.int .i64 r23) ∧ Q (.tuple [(.bool ((r7) == r23)), (.agg [(.int .i64 r18), (.int .i64 r19)])]) H24)) ∧ (¬(r17 = true) → Q (.tuple [(.bool false), (.agg [(.int .i64 r18), (.int .i64 r19)])]) H22))))))) : Ret F fl me [(.int .i64 checkpoint0), (.int .i64 n1), (.int .i64 i2), (.int .i64 before3), (.agg [(.int .i64 r4), (.int .i64 r5), (.int .i64 r6), (.int .i64 r7)]), proof8] H Q := by
  refine ret_intro hF rfl ?_
  refine w_seq ?_
  refine w_run [1, 0, 1] ?_
  obtain ⟨H9, hb⟩ : ∃ H', Dead1 H 1 H' := ⟨_, ⟨rfl⟩⟩
  replace h := h H9 hb
  refine t_tomb true 1 (.agg [(.int .i64 r4), (.int .i64 r5), (.int .i64 r6), (.int .i64 r7)]) [(.int .i64 r4), (.int .i64 r5), (.int .i64 r6), (.int .i64 r7)] H9 H (by kernel_rfl) rfl hb ?_
  obtain ⟨H10, hb⟩ : ∃ H', Dead1 H9 1 H' := ⟨_, ⟨rfl⟩⟩
  replace h := h H10 hb
  refine t_tomb true 1 (.agg [(.int .i64 0), (.int .i64 0)]) [(.int .i64 0), (.int .i64 0)] H10 H9 (by kernel_rfl) rfl hb ?_
  refine t_done [(.int .i64 checkpoint0), (.int .i64 n1), (.int .i64 i2), (.int .i64 before3), (.agg [(.int .i64 r4), (.int .i64 r5), (.int .i64 r6), (.int .i64 r7)]), proof8, (.bool false), (.agg [(.int .i64 0), (.int .i64 0)]), (.agg [(.int .i64 r4), (.int .i64 r5), (.int .i64 r6), (.int .i64 r7)]), .undef, .undef, .undef] H10 (by kernel_rfl) ?_
  refine then_norm ?_
  refine w_seq ?_
  refine w_seq ?_
  refine w_run [0, 1, 0, 0, 0, 3, 2, 0] ?_
  refine t_call true naudit_inRange [(.agg [(.int .i64 r4), (.int .i64 r5), (.int .i64 r6), (.int .i64 r7)])] H10 (by kernel_rfl) h ?_
  clear h
  rintro _ H12 ⟨r11, rfl, h⟩
  refine t_gd (!r11) false (by kernel_rfl) (fun hc => ?_) (fun hc => ?_)
  · replace h := h.2 ((is_not is_raw).f hc)
    refine t_call true nsigning_IsDigest [(.int .i64 before3)] H12 (by kernel_rfl) h ?_
    clear h
    rintro _ H15 ⟨r14, rfl, h⟩
    refine t_gd false false (by kernel_rfl) (fun _ => ?_) (fun hn => by cases hn)
    refine t_done [(.int .i64 checkpoint0), (.int .i64 n1), (.int .i64 i2), (.int .i64 before3), (.agg [(.int .i64 r4), (.int .i64 r5), (.int .i64 r6), (.int .i64 r7)]), proof8, (.bool false), (.agg [(.int .i64 0), (.int .i64 0)]), (.agg [(.int .i64 r4), (.int .i64 r5), (.int .i64 r6), (.int .i64 r7)]), (.bool (!r14)), .undef, .undef] H15 (by kernel_rfl) ?_
    refine then_norm ?_
    refine w_cond (t := (!r14)) rfl (fun hc => ?_) (fun hc => ?_)
    · replace h := h.1 ((is_not is_raw).t hc)
      refine w_seq ?_
      refine w_run [1, 0, 1] ?_
      refine t_build true [(.int .i64 0), (.int .i64 0)] [(0, 1, .loc 0), (1, 1, .loc 1)] [(.int .i64 3), (.int .i64 (-2))] [(.int .i64 3), (.int .i64 (-2))] H15 (by kernel_rfl) (fill_c (vs := [(.int .i64 3)]) (size := 1) rfl (by kernel_rfl) (by kernel_rfl) (fill_c (vs := [(.int .i64 (-2))]) (size := 1) rfl (by kernel_rfl) (by kernel_rfl) (by kernel_rfl))) ?_
      refine t_upd true 2 0 [(.int .i64 0), (.int .i64 0)] (.agg [(.int .i64 3), (.int .i64 (-2))]) [(.int .i64 3), (.int .i64 (-2))] [(.int .i64 3), (.int .i64 (-2))] H15 (by kernel_rfl) rfl (all_c rfl (all_c rfl all_n)) ⟨rfl, Nat.le_of_ble_eq_true (by kernel_rfl), rfl⟩ ?_
      refine t_done [(.int .i64 checkpoint0), (.int .i64 n1), (.int .i64 i2), (.int .i64 before3), (.agg [(.int .i64 r4), (.int .i64 r5), (.int .i64 r6), (.int .i64 r7)]), proof8, (.bool false), (.agg [(.int .i64 3), (.int .i64 (-2))]), (.agg [(.int .i64 r4), (.int .i64 r5), (.int .i64 r6), (.int .i64 r7)]), (.bool (!r14)), .undef, .undef] H15 (by kernel_rfl) ?_
      refine then_norm ?_
      refine w_ret ?_
      refine then_ret ?_
      exact body_ret (vs := [(.bool false), (.agg [(.int .i64 3), (.int .i64 (-2))])]) _ (by kernel_rfl) rfl h
    · replace h := h.2 ((is_not is_raw).f hc)
      refine w_skip ?_
      refine then_norm ?_
      refine w_seq ?_
      refine w_run [0, 0, 0, 0, 0, 0, 1, 0, 0, 0, 1, 0, 1] ?_
      refine t_call true ntranslog_Verify [(.int .i64 checkpoint0), (.int .i64 n1), (.int .i64 i2), (.int .i64 r7), proof8] H15 (by kernel_rfl) h ?_
      clear h
      rintro _ H20 ⟨r17, r18, r19, rfl, h⟩
      obtain ⟨H22, hb⟩ : ∃ H', Dead1 H20 1 H' := ⟨_, ⟨rfl⟩⟩
      replace h := h H22 hb
      refine t_tomb true 1 (.agg [(.int .i64 0), (.int .i64 0)]) [(.int .i64 0), (.int .i64 0)] H22 H20 (by kernel_rfl) rfl hb ?_
      refine t_upd true 2 0 [(.int .i64 0), (.int .i64 0)] (.agg [(.int .i64 r18), (.int .i64 r19)]) [(.int .i64 r18), (.int .i64 r19)] [(.int .i64 r18), (.int .i64 r19)] H22 (by kernel_rfl) rfl (all_c rfl (all_c rfl all_n)) ⟨rfl, Nat.le_of_ble_eq_true (by kernel_rfl), rfl⟩ ?_
      refine t_done [(.int .i64 checkpoint0), (.int .i64 n1), (.int .i64 i2), (.int .i64 before3), (.agg [(.int .i64 r4), (.int .i64 r5), (.int .i64 r6), (.int .i64 r7)]), proof8, (.bool false), (.agg [(.int .i64 0), (.int .i64 0)]), (.agg [(.int .i64 r4), (.int .i64 r5), (.int .i64 r6), (.int .i64 r7)]), (.bool (!r14)), (.bool r17), (.agg [(.int .i64 r18), (.int .i64 r19)])] H22 (by kernel_rfl) ?_
      refine then_norm ?_
      refine w_seq ?_
      refine w_run [0, 0, 0, 0, 0, 0, 3, 2, 0, 0, 0, 1] ?_
      refine t_gd r17 true (by kernel_rfl) (fun hc => ?_) (fun hc => ?_)
      · replace h := h.1 (is_raw.t hc)
        refine t_call false naudit_chain [(.int .i64 before3), (.agg [(.int .i64 r4), (.int .i64 r5), (.int .i64 r6), (.int .i64 r7)])] H22 (by kernel_rfl) h ?_
        clear h
        rintro _ H24 ⟨r23, rfl, h⟩
        refine t_gd true true (by kernel_rfl) (fun _ => ?_) (fun hn => by cases hn)
        refine t_upd true 2 0 [(.int .i64 0), (.int .i64 0)] (.agg [(.int .i64 r18), (.int .i64 r19)]) [(.int .i64 r18), (.int .i64 r19)] [(.int .i64 r18), (.int .i64 r19)] H24 (by kernel_rfl) rfl (all_c rfl (all_c rfl all_n)) ⟨rfl, Nat.le_of_ble_eq_true (by kernel_rfl), rfl⟩ ?_
        refine t_done [(.int .i64 checkpoint0), (.int .i64 n1), (.int .i64 i2), (.int .i64 before3), (.agg [(.int .i64 r4), (.int .i64 r5), (.int .i64 r6), (.int .i64 r7)]), proof8, (.bool ((r7) == r23)), (.agg [(.int .i64 r18), (.int .i64 r19)]), (.agg [(.int .i64 r4), (.int .i64 r5), (.int .i64 r6), (.int .i64 r7)]), (.bool (!r14)), (.bool r17), (.agg [(.int .i64 r18), (.int .i64 r19)])] H24 (by kernel_rfl) ?_
        refine then_norm ?_
        refine w_ret ?_
        exact body_ret (vs := [(.bool ((r7) == r23)), (.agg [(.int .i64 r18), (.int .i64 r19)])]) _ (by kernel_rfl) rfl h
      · replace h := h.2 (is_raw.f hc)
        refine t_gd false true (by kernel_rfl) (fun hn => by cases hn) (fun _ => ?_)
        refine t_upd true 2 0 [(.int .i64 0), (.int .i64 0)] (.agg [(.int .i64 r18), (.int .i64 r19)]) [(.int .i64 r18), (.int .i64 r19)] [(.int .i64 r18), (.int .i64 r19)] H22 (by kernel_rfl) rfl (all_c rfl (all_c rfl all_n)) ⟨rfl, Nat.le_of_ble_eq_true (by kernel_rfl), rfl⟩ ?_
        refine t_done [(.int .i64 checkpoint0), (.int .i64 n1), (.int .i64 i2), (.int .i64 before3), (.agg [(.int .i64 r4), (.int .i64 r5), (.int .i64 r6), (.int .i64 r7)]), proof8, (.bool false), (.agg [(.int .i64 r18), (.int .i64 r19)]), (.agg [(.int .i64 r4), (.int .i64 r5), (.int .i64 r6), (.int .i64 r7)]), (.bool (!r14)), (.bool r17), (.agg [(.int .i64 r18), (.int .i64 r19)])] H22 (by kernel_rfl) ?_
        refine then_norm ?_
        refine w_ret ?_
        exact body_ret (vs := [(.bool false), (.agg [(.int .i64 r18), (.int .i64 r19)])]) _ (by kernel_rfl) rfl h
  · replace h := h.1 ((is_not is_raw).t hc)
    refine t_gd true false (by kernel_rfl) (fun hn => by cases hn) (fun _ => ?_)
    refine t_done [(.int .i64 checkpoint0), (.int .i64 n1), (.int .i64 i2), (.int .i64 before3), (.agg [(.int .i64 r4), (.int .i64 r5), (.int .i64 r6), (.int .i64 r7)]), proof8, (.bool false), (.agg [(.int .i64 0), (.int .i64 0)]), (.agg [(.int .i64 r4), (.int .i64 r5), (.int .i64 r6), (.int .i64 r7)]), (.bool true), .undef, .undef] H12 (by kernel_rfl) ?_
    refine then_norm ?_
    refine w_cond (t := true) rfl (fun _ => ?_) (fun hc => by cases hc)
    refine w_seq ?_
    refine w_run [1, 0, 1] ?_
    refine t_build true [(.int .i64 0), (.int .i64 0)] [(0, 1, .loc 0), (1, 1, .loc 1)] [(.int .i64 3), (.int .i64 (-2))] [(.int .i64 3), (.int .i64 (-2))] H12 (by kernel_rfl) (fill_c (vs := [(.int .i64 3)]) (size := 1) rfl (by kernel_rfl) (by kernel_rfl) (fill_c (vs := [(.int .i64 (-2))]) (size := 1) rfl (by kernel_rfl) (by kernel_rfl) (by kernel_rfl))) ?_
    refine t_upd true 2 0 [(.int .i64 0), (.int .i64 0)] (.agg [(.int .i64 3), (.int .i64 (-2))]) [(.int .i64 3), (.int .i64 (-2))] [(.int .i64 3), (.int .i64 (-2))] H12 (by kernel_rfl) rfl (all_c rfl (all_c rfl all_n)) ⟨rfl, Nat.le_of_ble_eq_true (by kernel_rfl), rfl⟩ ?_
    refine t_done [(.int .i64 checkpoint0), (.int .i64 n1), (.int .i64 i2), (.int .i64 before3), (.agg [(.int .i64 r4), (.int .i64 r5), (.int .i64 r6), (.int .i64 r7)]), proof8, (.bool false), (.agg [(.int .i64 3), (.int .i64 (-2))]), (.agg [(.int .i64 r4), (.int .i64 r5), (.int .i64 r6), (.int .i64 r7)]), (.bool true), .undef, .undef] H12 (by kernel_rfl) ?_
    refine then_norm ?_
    refine w_ret ?_
    refine then_ret ?_
    exact body_ret (vs := [(.bool false), (.agg [(.int .i64 3), (.int .i64 (-2))])]) _ (by kernel_rfl) rfl h

end Go.RM

