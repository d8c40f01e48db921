import Derived.Test.YtlcoalimkpjjpaaRmVc
/-
  Functions of the program as the abstract machine runs them, and what must be shown of a run: printed by RmPrint.
-/
namespace Go.RM
set_option linter.unusedVariables false
set_option maxRecDepth 4000
def rf_rollout_plan_step (nrollout_unused nrollout_plan_start nrollout_plan_report nrollout_plan_advance nrollout_plan_abort : Nat) : RFunc := ⟨2, 12, [.var 2],
 ((.seq (.ops [⟨.tomb 1 (.var 1), none, (some 3), true⟩, ⟨.move (.k (.int .i64 0)), none, (some 2), true⟩])
 ((.seq (.block 0 ((.seq (.ops [⟨.field 0 none (.var 3), none, none, true⟩, ⟨.field 0 none (.var 3), none, none, true⟩, ⟨.bin .lss .no (.loc 1) (.k (.int .i64 1)), none, none, true⟩, ⟨.move (.loc 2), none, none, true⟩, ⟨.field 0 none (.var 3), none, none, true⟩, ⟨.field 0 none (.var 3), none, none, true⟩, ⟨.bin .gtr .no (.loc 5) (.k (.int .i64 4)), none, none, true⟩, ⟨.pick (.loc 3) (.k (.bool true)) (.loc 6), none, none, true⟩, ⟨.move (.loc 7), none, (some 4), true⟩])
 (.cond (.var 4) ((.seq (.ops [⟨.move (.k (.int .i64 4)), none, (some 2), true⟩])
 (.ret))) ((.seq (.ops [⟨.field 0 (some 5) (.var 3), none, none, true⟩, ⟨.callS nrollout_unused [(.loc 0)], none, none, true⟩, ⟨.move (.loc 1), none, (some 5), true⟩])
 (.cond (.var 5) ((.seq (.ops [⟨.move (.k (.int .i64 5)), none, (some 2), true⟩])
 (.ret))) ((.seq (.ops [⟨.field 0 none (.var 3), none, none, true⟩, ⟨.field 2 none (.var 3), none, none, true⟩, ⟨.bin .lss .no (.loc 1) (.k (.int .i64 0)), none, none, true⟩, ⟨.move (.loc 2), none, none, true⟩, ⟨.field 0 none (.var 3), none, none, false⟩, ⟨.field 2 none (.var 3), none, none, false⟩, ⟨.move (.var 0), none, none, false⟩, ⟨.nilCheck (.loc 6), (some (3, false)), none, false⟩, ⟨.fieldAddr 4 (.loc 7), (some (3, false)), none, false⟩, ⟨.load none (.loc 8), (some (3, false)), none, false⟩, ⟨.len (.loc 9), (some (3, false)), none, false⟩, ⟨.bin .geq .no (.loc 5) (.loc 10), (some (3, false)), none, true⟩, ⟨.pick (.loc 3) (.k (.bool true)) (.loc 11), none, none, true⟩, ⟨.move (.loc 12), none, (some 6), true⟩])
 (.cond (.var 6) ((.seq (.ops [⟨.move (.k (.int .i64 3)), none, (some 2), true⟩])
 (.ret))) (.skip)))))))))))
 ((.seq ((.seq (.ops [⟨.field 0 none (.var 3), none, none, true⟩, ⟨.field 0 none (.var 3), none, (some 7), true⟩])
 (.block 1 ((.seq (.ops [⟨.bin .eql .no (.var 7) (.k (.int .i64 1)), none, none, true⟩, ⟨.move (.loc 0), none, (some 8), true⟩])
 (.cond (.var 8) ((.seq (.ops [⟨.move (.var 0), none, none, true⟩, ⟨.field 0 none (.var 3), none, none, true⟩, ⟨.field 1 none (.var 3), none, none, true⟩, ⟨.callS nrollout_plan_start [(.loc 0), (.loc 2)], none, none, true⟩, ⟨.move (.loc 3), none, (some 2), true⟩])
 (.ret))) ((.seq (.ops [⟨.bin .eql .no (.var 7) (.k (.int .i64 2)), none, none, true⟩, ⟨.move (.loc 0), none, (some 9), true⟩])
 (.cond (.var 9) ((.seq (.ops [⟨.move (.var 0), none, none, false⟩, ⟨.move (.var 0), none, none, false⟩, ⟨.nilCheck (.loc 1), none, none, false⟩, ⟨.fieldAddr 4 (.loc 2), none, none, false⟩, ⟨.load none (.loc 3), none, none, false⟩, ⟨.field 0 none (.var 3), none, none, false⟩, ⟨.field 2 none (.var 3), none, none, false⟩, ⟨.indexAddr 4 (.loc 4) (.loc 6), none, none, false⟩, ⟨.field 0 none (.var 3), none, none, false⟩, ⟨.field 3 (some 2) (.var 3), none, none, false⟩, ⟨.callS nrollout_plan_report [(.loc 0), (.loc 7), (.loc 9)], none, none, true⟩, ⟨.move (.loc 10), none, (some 2), true⟩])
 (.ret))) ((.seq (.ops [⟨.bin .eql .no (.var 7) (.k (.int .i64 3)), none, none, true⟩, ⟨.move (.loc 0), none, (some 10), true⟩])
 (.cond (.var 10) ((.seq (.ops [⟨.move (.var 0), none, none, true⟩, ⟨.field 0 none (.var 3), none, none, true⟩, ⟨.field 2 none (.var 3), none, none, true⟩, ⟨.callS nrollout_plan_advance [(.loc 0), (.loc 2)], none, none, true⟩, ⟨.move (.loc 3), none, (some 2), true⟩])
 (.ret))) (.skip)))))))))))))
 ((.seq ((.seq (.ops [⟨.move (.var 0), none, none, true⟩, ⟨.field 0 none (.var 3), none, none, true⟩, ⟨.field 1 none (.var 3), none, none, true⟩, ⟨.callS nrollout_plan_abort [(.loc 0), (.loc 2)], none, none, true⟩, ⟨.un .not (.loc 3), none, (some 11), true⟩])
 (.cond (.var 11) ((.seq (.ops [⟨.move (.k (.int .i64 6)), none, (some 2), true⟩])
 (.ret))) (.skip))))
 ((.seq (.ops [⟨.move (.k (.int .i64 0)), none, (some 2), true⟩])
 (.ret)))))))))))⟩
theorem v_rollout_plan_step {F : Nat → Option RFunc} {me nrollout_unused nrollout_plan_start nrollout_plan_report nrollout_plan_advance nrollout_plan_abort : Nat} (hF : F me = some (rf_rollout_plan_step nrollout_unused nrollout_plan_start nrollout_plan_report nrollout_plan_advance nrollout_plan_abort)) {fl : Nat} {H : Heap} {Q : AV → Heap → Prop} (pb0 : Nat) (po1 : Nat) (e2 : Int) (e3 : Int) (e4 : Int) (e5 : Int) (e6 : Int)
  (h : ∀ (H7 : Heap), Dead1 H 1 H7 → ((((e2 < 1) ∨ (e2 > 4))) → Q (.int .i64 4) H7) ∧ (¬(((e2 < 1) ∨ (e2 > 4))) → Ret F fl nrollout_unused [(.agg [(.int .i64 e2), (.int .i64 e3), (.int .i64 e4), (.int .i64 e5), (.int .i64 e6)])] H7 (fun v10 H9 => ∃ (r8 : Bool), v10 = (.bool r8) ∧ ((r8 = true) → Q (.int .i64 5) H9) ∧ (¬(r8 = true) → ((e4 < 0) → Q (.int .i64 3) H9) ∧ (¬(e4 < 0) → ∃ (e11 : AV), rload H9 none pb0 (po1 + 4) = some e11 ∧ ∃ len12 : Nat, lenA e11 = some len12 ∧ ((e4 ≥ (len12 : Int)) → Q (.int .i64 3) H9) ∧ (¬(e4 ≥ (len12 : Int)) → ((e2 = 1) → Ret F fl nrollout_plan_start [(.ptr pb0 po1), (.int .i64 e3)] H9 (fun v15 H14 => ∃ (r13 : Int), v15 = (.int .i64 r13) ∧ Q (.int .i64 r13) H14)) ∧ (¬(e2 = 1) → ((e2 = 2) → ∃ (e16 : AV), rload H9 none pb0 (po1 + 4) = some e16 ∧ ∃ b17 o18 : Nat, ptrA 4 e16 e4 = some (b17, o18) ∧ Ret F fl nrollout_plan_report [(.ptr pb0 po1), (.ptr b17 o18), (.agg [(.int .i64 e5), (.int .i64 e6)])] H9 (fun v21 H20 => ∃ (r19 : Int), v21 = (.int .i64 r19) ∧ Q (.int .i64 r19) H20)) ∧ (¬(e2 = 2) → ((e2 = 3) → Ret F fl nrollout_plan_advance [(.ptr pb0 po1), (.int .i64 e4)] H9 (fun v24 H23 => ∃ (r22 : Int), v24 = (.int .i64 r22) ∧ Q (.int .i64 r22) H23)) ∧ (¬(e2 = 3) → Ret F fl nrollout_plan_abort [(.ptr pb0 po1), (.int .i64 e3)] H9 (fun v27 H26 => ∃ (r25 : Bool), v27 = (.bool r25) ∧ ((¬(r25 = true)) → Q (.int .i64 6) H26) ∧ (¬(¬(r25 = true)) → Q (.int .i64 0) H26))))))))))) : Ret F fl me [(.ptr pb0 po1), (.agg [(.int .i64 e2), (.int .i64 e3), (.int .i64 e4), (.int .i64 e5), (.int .i64 e6)])] H Q := by
  refine ret_intro hF rfl ?_
  refine w_seq ?_
  refine w_run [1, 0] ?_
  obtain ⟨H7, hb⟩ : ∃ H', Dead1 H 1 H' := ⟨_, ⟨rfl⟩⟩
  replace h := h H7 hb
  refine t_tomb true 1 (.agg [(.int .i64 e2), (.int .i64 e3), (.int .i64 e4), (.int .i64 e5), (.int .i64 e6)]) [(.int .i64 e2), (.int .i64 e3), (.int .i64 e4), (.int .i64 e5), (.int .i64 e6)] H7 H (by kernel_rfl) rfl hb ?_
  refine t_done [(.ptr pb0 po1), (.agg [(.int .i64 e2), (.int .i64 e3), (.int .i64 e4), (.int .i64 e5), (.int .i64 e6)]), (.int .i64 0), (.agg [(.int .i64 e2), (.int .i64 e3), (.int .i64 e4), (.int .i64 e5), (.int .i64 e6)]), .undef, .undef, .undef, .undef, .undef, .undef, .undef, .undef] H7 (by kernel_rfl) ?_
  refine then_norm ?_
  refine w_seq ?_
  refine w_block ?_
  refine w_seq ?_
  refine w_run [0, 0, 0, 0, 0, 0, 0, 0, 0] ?_
  refine t_done [(.ptr pb0 po1), (.agg [(.int .i64 e2), (.int .i64 e3), (.int .i64 e4), (.int .i64 e5), (.int .i64 e6)]), (.int .i64 0), (.agg [(.int .i64 e2), (.int .i64 e3), (.int .i64 e4), (.int .i64 e5), (.int .i64 e6)]), (.bool ((decide (e2 < 1)) || (decide (e2 > 4)))), .undef, .undef, .undef, .undef, .undef, .undef, .undef] H7 (by kernel_rfl) ?_
  refine then_norm ?_
  refine w_cond (t := ((decide (e2 < 1)) || (decide (e2 > 4)))) rfl (fun hc => ?_) (fun hc => ?_)
  · replace h := h.1 ((is_or is_dec is_dec).t hc)
    refine w_seq ?_
    refine w_run [0] ?_
    refine t_done [(.ptr pb0 po1), (.agg [(.int .i64 e2), (.int .i64 e3), (.int .i64 e4), (.int .i64 e5), (.int .i64 e6)]), (.int .i64 4), (.agg [(.int .i64 e2), (.int .i64 e3), (.int .i64 e4), (.int .i64 e5), (.int .i64 e6)]), (.bool ((decide (e2 < 1)) || (decide (e2 > 4)))), .undef, .undef, .undef, .undef, .undef, .undef, .undef] H7 (by kernel_rfl) ?_
    refine then_norm ?_
    refine w_ret ?_
    refine block_ret ?_
    refine then_ret ?_
    exact body_ret (vs := [(.int .i64 4)]) _ (by kernel_rfl) rfl h
  · replace h := h.2 ((is_or is_dec is_dec).f hc)
    refine w_seq ?_
    refine w_run [0, 1, 0] ?_
    refine t_call true nrollout_unused [(.agg [(.int .i64 e2), (.int .i64 e3), (.int .i64 e4), (.int .i64 e5), (.int .i64 e6)])] H7 (by kernel_rfl) h ?_
    clear h
    rintro _ H9 ⟨r8, rfl, h⟩
    refine t_done [(.ptr pb0 po1), (.agg [(.int .i64 e2), (.int .i64 e3), (.int .i64 e4), (.int .i64 e5), (.int .i64 e6)]), (.int .i64 0), (.agg [(.int .i64 e2), (.int .i64 e3), (.int .i64 e4), (.int .i64 e5), (.int .i64 e6)]), (.bool ((decide (e2 < 1)) || (decide (e2 > 4)))), (.bool r8), .undef, .undef, .undef, .undef, .undef, .undef] H9 (by kernel_rfl) ?_
    refine then_norm ?_
    refine w_cond (t := r8) rfl (fun hc => ?_) (fun hc => ?_)
    · replace h := h.1 (is_raw.t hc)
      refine w_seq ?_
      refine w_run [0] ?_
      refine t_done [(.ptr pb0 po1), (.agg [(.int .i64 e2), (.int .i64 e3), (.int .i64 e4), (.int .i64 e5), (.int .i64 e6)]), (.int .i64 5), (.agg [(.int .i64 e2), (.int .i64 e3), (.int .i64 e4), (.int .i64 e5), (.int .i64 e6)]), (.bool ((decide (e2 < 1)) || (decide (e2 > 4)))), (.bool r8), .undef, .undef, .undef, .undef, .undef, .undef] H9 (by kernel_rfl) ?_
      refine then_norm ?_
      refine w_ret ?_
      refine block_ret ?_
      refine then_ret ?_
      exact body_ret (vs := [(.int .i64 5)]) _ (by kernel_rfl) rfl h
    · replace h := h.2 (is_raw.f hc)
      refine w_seq ?_
      refine w_run [0, 0, 0, 0, 0, 0, 0, 3, 3, 3, 3, 2, 0, 0] ?_
      refine t_gd (decide (e4 < 0)) false (by kernel_rfl) (fun hc => ?_) (fun hc => ?_)
      · replace h := h.2 (is_dec.f hc)
        refine t_ptr false pb0 po1 H9 (by kernel_rfl) ?_
        refine t_gd false false (by kernel_rfl) (fun _ => ?_) (fun hn => by cases hn)
        refine t_op false (.fieldAddr 4 (.loc 0)) [.ptr pb0 po1] H9 (.ptr pb0 (po1 + 4)) H9 (by kernel_rfl) rfl ?_
        refine t_gd false false (by kernel_rfl) (fun _ => ?_) (fun hn => by cases hn)
        obtain ⟨e11, hl, h⟩ := h
        refine t_load false none pb0 (po1 + 4) e11 H9 (by kernel_rfl) hl ?_
        refine t_gd false false (by kernel_rfl) (fun _ => ?_) (fun hn => by cases hn)
        obtain ⟨len12, hl, h⟩ := h
        refine t_len false e11 len12 H9 (by kernel_rfl) hl ?_
        refine t_gd false false (by kernel_rfl) (fun _ => ?_) (fun hn => by cases hn)
        refine t_done [(.ptr pb0 po1), (.agg [(.int .i64 e2), (.int .i64 e3), (.int .i64 e4), (.int .i64 e5), (.int .i64 e6)]), (.int .i64 0), (.agg [(.int .i64 e2), (.int .i64 e3), (.int .i64 e4), (.int .i64 e5), (.int .i64 e6)]), (.bool ((decide (e2 < 1)) || (decide (e2 > 4)))), (.bool r8), (.bool (decide (e4 ≥ (len12 : Int)))), .undef, .undef, .undef, .undef, .undef] H9 (by kernel_rfl) ?_
        refine then_norm ?_
        refine w_cond (t := (decide (e4 ≥ (len12 : Int)))) rfl (fun hc => ?_) (fun hc => ?_)
        · replace h := h.1 (is_dec.t hc)
          refine w_seq ?_
          refine w_run [0] ?_
          refine t_done [(.ptr pb0 po1), (.agg [(.int .i64 e2), (.int .i64 e3), (.int .i64 e4), (.int .i64 e5), (.int .i64 e6)]), (.int .i64 3), (.agg [(.int .i64 e2), (.int .i64 e3), (.int .i64 e4), (.int .i64 e5), (.int .i64 e6)]), (.bool ((decide (e2 < 1)) || (decide (e2 > 4)))), (.bool r8), (.bool (decide (e4 ≥ (len12 : Int)))), .undef, .undef, .undef, .undef, .undef] H9 (by kernel_rfl) ?_
          refine then_norm ?_
          refine w_ret ?_
          refine block_ret ?_
          refine then_ret ?_
          exact body_ret (vs := [(.int .i64 3)]) _ (by kernel_rfl) rfl h
        · replace h := h.2 (is_dec.f hc)
          refine w_skip ?_
          refine block_norm ?_
          refine then_norm ?_
          refine w_seq ?_
          refine w_seq ?_
          refine w_run [0, 0] ?_
          refine t_done [(.ptr pb0 po1), (.agg [(.int .i64 e2), (.int .i64 e3), (.int .i64 e4), (.int .i64 e5), (.int .i64 e6)]), (.int .i64 0), (.agg [(.int .i64 e2), (.int .i64 e3), (.int .i64 e4), (.int .i64 e5), (.int .i64 e6)]), (.bool ((decide (e2 < 1)) || (decide (e2 > 4)))), (.bool r8), (.bool (decide (e4 ≥ (len12 : Int)))), (.int .i64 e2), .undef, .undef, .undef, .undef] H9 (by kernel_rfl) ?_
          refine then_norm ?_
          refine w_block ?_
          refine w_seq ?_
          refine w_run [0, 0] ?_
          refine t_done [(.ptr pb0 po1), (.agg [(.int .i64 e2), (.int .i64 e3), (.int .i64 e4), (.int .i64 e5), (.int .i64 e6)]), (.int .i64 0), (.agg [(.int .i64 e2), (.int .i64 e3), (.int .i64 e4), (.int .i64 e5), (.int .i64 e6)]), (.bool ((decide (e2 < 1)) || (decide (e2 > 4)))), (.bool r8), (.bool (decide (e4 ≥ (len12 : Int)))), (.int .i64 e2), (.bool ((e2) == 1)), .undef, .undef, .undef] H9 (by kernel_rfl) ?_
          refine then_norm ?_
          refine w_cond (t := ((e2) == 1)) rfl (fun hc => ?_) (fun hc => ?_)
          · replace h := h.1 (is_eq.t hc)
            refine w_seq ?_
            refine w_run [0, 0, 0, 1, 0] ?_
            refine t_call true nrollout_plan_start [(.ptr pb0 po1), (.int .i64 e3)] H9 (by kernel_rfl) h ?_
            clear h
            rintro _ H14 ⟨r13, rfl, h⟩
            refine t_done [(.ptr pb0 po1), (.agg [(.int .i64 e2), (.int .i64 e3), (.int .i64 e4), (.int .i64 e5), (.int .i64 e6)]), (.int .i64 r13), (.agg [(.int .i64 e2), (.int .i64 e3), (.int .i64 e4), (.int .i64 e5), (.int .i64 e6)]), (.bool ((decide (e2 < 1)) || (decide (e2 > 4)))), (.bool r8), (.bool (decide (e4 ≥ (len12 : Int)))), (.int .i64 e2), (.bool ((e2) == 1)), .undef, .undef, .undef] H14 (by kernel_rfl) ?_
            refine then_norm ?_
            refine w_ret ?_
            refine block_ret ?_
            refine then_ret ?_
            exact body_ret (vs := [(.int .i64 r13)]) _ (by kernel_rfl) rfl h
          · replace h := h.2 (is_eq.f hc)
            refine w_seq ?_
            refine w_run [0, 0] ?_
            refine t_done [(.ptr pb0 po1), (.agg [(.int .i64 e2), (.int .i64 e3), (.int .i64 e4), (.int .i64 e5), (.int .i64 e6)]), (.int .i64 0), (.agg [(.int .i64 e2), (.int .i64 e3), (.int .i64 e4), (.int .i64 e5), (.int .i64 e6)]), (.bool ((decide (e2 < 1)) || (decide (e2 > 4)))), (.bool r8), (.bool (decide (e4 ≥ (len12 : Int)))), (.int .i64 e2), (.bool ((e2) == 1)), (.bool ((e2) == 2)), .undef, .undef] H9 (by kernel_rfl) ?_
            refine then_norm ?_
            refine w_cond (t := ((e2) == 2)) rfl (fun hc => ?_) (fun hc => ?_)
            · replace h := h.1 (is_eq.t hc)
              refine w_seq ?_
              refine w_run [0, 0, 1, 1, 1, 0, 0, 1, 0, 0, 1, 0] ?_
              refine t_ptr false pb0 po1 H9 (by kernel_rfl) ?_
              refine t_op false (.fieldAddr 4 (.loc 0)) [.ptr pb0 po1] H9 (.ptr pb0 (po1 + 4)) H9 (by kernel_rfl) rfl ?_
              obtain ⟨e16, hl, h⟩ := h
              refine t_load false none pb0 (po1 + 4) e16 H9 (by kernel_rfl) hl ?_
              obtain ⟨b17, o18, hp, h⟩ := h
              refine t_idx false 4 e16 .i64 e4 b17 o18 H9 (by kernel_rfl) hp ?_
              refine t_call true nrollout_plan_report [(.ptr pb0 po1), (.ptr b17 o18), (.agg [(.int .i64 e5), (.int .i64 e6)])] H9 (by kernel_rfl) h ?_
              clear h
              rintro _ H20 ⟨r19, rfl, h⟩
              refine t_done [(.ptr pb0 po1), (.agg [(.int .i64 e2), (.int .i64 e3), (.int .i64 e4), (.int .i64 e5), (.int .i64 e6)]), (.int .i64 r19), (.agg [(.int .i64 e2), (.int .i64 e3), (.int .i64 e4), (.int .i64 e5), (.int .i64 e6)]), (.bool ((decide (e2 < 1)) || (decide (e2 > 4)))), (.bool r8), (.bool (decide (e4 ≥ (len12 : Int)))), (.int .i64 e2), (.bool ((e2) == 1)), (.bool ((e2) == 2)), .undef, .undef] H20 (by kernel_rfl) ?_
              refine then_norm ?_
              refine w_ret ?_
              refine block_ret ?_
              refine then_ret ?_
              exact body_ret (vs := [(.int .i64 r19)]) _ (by kernel_rfl) rfl h
            · replace h := h.2 (is_eq.f hc)
              refine w_seq ?_
              refine w_run [0, 0] ?_
              refine t_done [(.ptr pb0 po1), (.agg [(.int .i64 e2), (.int .i64 e3), (.int .i64 e4), (.int .i64 e5), (.int .i64 e6)]), (.int .i64 0), (.agg [(.int .i64 e2), (.int .i64 e3), (.int .i64 e4), (.int .i64 e5), (.int .i64 e6)]), (.bool ((decide (e2 < 1)) || (decide (e2 > 4)))), (.bool r8), (.bool (decide (e4 ≥ (len12 : Int)))), (.int .i64 e2), (.bool ((e2) == 1)), (.bool ((e2) == 2)), (.bool ((e2) == 3)), .undef] H9 (by kernel_rfl) ?_
              refine then_norm ?_
              refine w_cond (t := ((e2) == 3)) rfl (fun hc => ?_) (fun hc => ?_)
              · replace h := h.1 (is_eq.t hc)
                refine w_seq ?_
                refine w_run [0, 0, 0, 1, 0] ?_
                refine t_call true nrollout_plan_advance [(.ptr pb0 po1), (.int .i64 e4)] H9 (by kernel_rfl) h ?_
                clear h
                rintro _ H23 ⟨r22, rfl, h⟩
                refine t_done [(.ptr pb0 po1), (.agg [(.int .i64 e2), (.int .i64 e3), (.int .i64 e4), (.int .i64 e5), (.int .i64 e6)]), (.int .i64 r22), (.agg [(.int .i64 e2), (.int .i64 e3), (.int .i64 e4), (.int .i64 e5), (.int .i64 e6)]), (.bool ((decide (e2 < 1)) || (decide (e2 > 4)))), (.bool r8), (.bool (decide (e4 ≥ (len12 : Int)))), (.int .i64 e2), (.bool ((e2) == 1)), (.bool ((e2) == 2)), (.bool ((e2) == 3)), .undef] H23 (by kernel_rfl) ?_
                refine then_norm ?_
                refine w_ret ?_
                refine block_ret ?_
                refine then_ret ?_
                exact body_ret (vs := [(.int .i64 r22)]) _ (by kernel_rfl) rfl h
              · replace h := h.2 (is_eq.f hc)
                refine w_skip ?_
                refine block_norm ?_
                refine then_norm ?_
                refine w_seq ?_
                refine w_seq ?_
                refine w_run [0, 0, 0, 1, 0] ?_
                refine t_call true nrollout_plan_abort [(.ptr pb0 po1), (.int .i64 e3)] H9 (by kernel_rfl) h ?_
                clear h
                rintro _ H26 ⟨r25, rfl, h⟩
                refine t_done [(.ptr pb0 po1), (.agg [(.int .i64 e2), (.int .i64 e3), (.int .i64 e4), (.int .i64 e5), (.int .i64 e6)]), (.int .i64 0), (.agg [(.int .i64 e2), (.int .i64 e3), (.int .i64 e4), (.int .i64 e5), (.int .i64 e6)]), (.bool ((decide (e2 < 1)) || (decide (e2 > 4)))), (.bool r8), (.bool (decide (e4 ≥ (len12 : Int)))), (.int .i64 e2), (.bool ((e2) == 1)), (.bool ((e2) == 2)), (.bool ((e2) == 3)), (.bool (!r25))] H26 (by kernel_rfl) ?_
                refine then_norm ?_
                refine w_cond (t := (!r25)) rfl (fun hc => ?_) (fun hc => ?_)
                · replace h := h.1 ((is_not is_raw).t hc)
                  refine w_seq ?_
                  refine w_run [0] ?_
                  refine t_done [(.ptr pb0 po1), (.agg [(.int .i64 e2), (.int .i64 e3), (.int .i64 e4), (.int .i64 e5), (.int .i64 e6)]), (.int .i64 6), (.agg [(.int .i64 e2), (.int .i64 e3), (.int .i64 e4), (.int .i64 e5), (.int .i64 e6)]), (.bool ((decide (e2 < 1)) || (decide (e2 > 4)))), (.bool r8), (.bool (decide (e4 ≥ (len12 : Int)))), (.int .i64 e2), (.bool ((e2) == 1)), (.bool ((e2) == 2)), (.bool ((e2) == 3)), (.bool (!r25))] H26 (by kernel_rfl) ?_
                  refine then_norm ?_
                  refine w_ret ?_
                  refine then_ret ?_
                  exact body_ret (vs := [(.int .i64 6)]) _ (by kernel_rfl) rfl h
                · replace h := h.2 ((is_not is_raw).f hc)
                  refine w_skip ?_
                  refine then_norm ?_
                  refine w_seq ?_
                  refine w_run [0] ?_
                  refine t_done [(.ptr pb0 po1), (.agg [(.int .i64 e2), (.int .i64 e3), (.int .i64 e4), (.int .i64 e5), (.int .i64 e6)]), (.int .i64 0), (.agg [(.int .i64 e2), (.int .i64 e3), (.int .i64 e4), (.int .i64 e5), (.int .i64 e6)]), (.bool ((decide (e2 < 1)) || (decide (e2 > 4)))), (.bool r8), (.bool (decide (e4 ≥ (len12 : Int)))), (.int .i64 e2), (.bool ((e2) == 1)), (.bool ((e2) == 2)), (.bool ((e2) == 3)), (.bool (!r25))] H26 (by kernel_rfl) ?_
                  refine then_norm ?_
                  refine w_ret ?_
                  exact body_ret (vs := [(.int .i64 0)]) _ (by kernel_rfl) rfl h
      · replace h := h.1 (is_dec.t hc)
        refine t_gd true false (by kernel_rfl) (fun hn => by cases hn) (fun _ => ?_)
        refine t_gd true false (by kernel_rfl) (fun hn => by cases hn) (fun _ => ?_)
        refine t_gd true false (by kernel_rfl) (fun hn => by cases hn) (fun _ => ?_)
        refine t_gd true false (by kernel_rfl) (fun hn => by cases hn) (fun _ => ?_)
        refine t_done [(.ptr pb0 po1), (.agg [(.int .i64 e2), (.int .i64 e3), (.int .i64 e4), (.int .i64 e5), (.int .i64 e6)]), (.int .i64 0), (.agg [(.int .i64 e2), (.int .i64 e3), (.int .i64 e4), (.int .i64 e5), (.int .i64 e6)]), (.bool ((decide (e2 < 1)) || (decide (e2 > 4)))), (.bool r8), (.bool true), .undef, .undef, .undef, .undef, .undef] H9 (by kernel_rfl) ?_
        refine then_norm ?_
        refine w_cond (t := true) rfl (fun _ => ?_) (fun hc => by cases hc)
        refine w_seq ?_
        refine w_run [0] ?_
        refine t_done [(.ptr pb0 po1), (.agg [(.int .i64 e2), (.int .i64 e3), (.int .i64 e4), (.int .i64 e5), (.int .i64 e6)]), (.int .i64 3), (.agg [(.int .i64 e2), (.int .i64 e3), (.int .i64 e4), (.int .i64 e5), (.int .i64 e6)]), (.bool ((decide (e2 < 1)) || (decide (e2 > 4)))), (.bool r8), (.bool true), .undef, .undef, .undef, .undef, .undef] H9 (by kernel_rfl) ?_
        refine then_norm ?_
        refine w_ret ?_
        refine block_ret ?_
        refine then_ret ?_
        exact body_ret (vs := [(.int .i64 3)]) _ (by kernel_rfl) rfl h

def rf_rollout_last : RFunc := ⟨1, 4, [.var 1],
 ((.seq (.ops [⟨.tomb 1 (.var 0), none, (some 2), true⟩, ⟨.move (.k (.int .i64 0)), none, (some 1), true⟩])
 ((.seq ((.seq (.ops [⟨.field 0 none (.var 2), none, none, true⟩, ⟨.field 0 none (.var 2), none, none, true⟩, ⟨.len (.loc 1), none, none, true⟩, ⟨.bin .eql .no (.loc 2) (.k (.int .i64 0)), none, (some 3), true⟩])
 (.cond (.var 3) ((.seq (.ops [⟨.move (.k (.int .i64 0)), none, (some 1), true⟩])
 (.ret))) (.skip))))
 ((.seq (.ops [⟨.field 0 none (.var 2), none, none, true⟩, ⟨.field 0 none (.var 2), none, none, true⟩, ⟨.field 0 none (.var 2), none, none, true⟩, ⟨.field 0 none (.var 2), none, none, true⟩, ⟨.len (.loc 3), none, none, true⟩, ⟨.bin .sub .no (.loc 4) (.k (.int .i64 1)), none, none, true⟩, ⟨.indexAddr 1 (.loc 1) (.loc 5), none, none, true⟩, ⟨.load none (.loc 6), none, none, true⟩, ⟨.move (.loc 7), none, (some 1), true⟩])
 (.ret)))))))⟩
theorem v_rollout_last {F : Nat → Option RFunc} {me : Nat} (hF : F me = some (rf_rollout_last )) {fl : Nat} {H : Heap} {Q : AV → Heap → Prop} (r0 : AV) (r1 : Int) (r2 : Int) (r3 : Int)
  (h : ∀ (H4 : Heap), Dead1 H 1 H4 → ∃ len5 : Nat, lenA r0 = some len5 ∧ (((len5 : Int) = 0) → Q (.int .i64 0) H4) ∧ (¬((len5 : Int) = 0) → ∃ len6 : Nat, lenA r0 = some len6 ∧ ∃ (e7 : Int), getA H4 1 none r0 (IntKind.wrap .i64 ((len6 : Int) - 1)) 0 = some (.int .i64 e7) ∧ Q (.int .i64 e7) H4)) : Ret F fl me [(.agg [r0, (.int .i64 r1), (.int .i64 r2), (.int .i64 r3)])] H Q := by
  refine ret_intro hF rfl ?_
  refine w_seq ?_
  refine w_run [1, 0] ?_
  obtain ⟨H4, hb⟩ : ∃ H', Dead1 H 1 H' := ⟨_, ⟨rfl⟩⟩
  replace h := h H4 hb
  refine t_tomb true 1 (.agg [r0, (.int .i64 r1), (.int .i64 r2), (.int .i64 r3)]) [r0, (.int .i64 r1), (.int .i64 r2), (.int .i64 r3)] H4 H (by kernel_rfl) rfl hb ?_
  refine t_done [(.agg [r0, (.int .i64 r1), (.int .i64 r2), (.int .i64 r3)]), (.int .i64 0), (.agg [r0, (.int .i64 r1), (.int .i64 r2), (.int .i64 r3)]), .undef] H4 (by kernel_rfl) ?_
  refine then_norm ?_
  refine w_seq ?_
  refine w_seq ?_
  refine w_run [0, 0, 1, 0] ?_
  obtain ⟨len5, hl, h⟩ := h
  refine t_len true r0 len5 H4 (by kernel_rfl) hl ?_
  refine t_done [(.agg [r0, (.int .i64 r1), (.int .i64 r2), (.int .i64 r3)]), (.int .i64 0), (.agg [r0, (.int .i64 r1), (.int .i64 r2), (.int .i64 r3)]), (.bool (((len5 : Int)) == 0))] H4 (by kernel_rfl) ?_
  refine then_norm ?_
  refine w_cond (t := (((len5 : Int)) == 0)) rfl (fun hc => ?_) (fun hc => ?_)
  · replace h := h.1 (is_eq.t hc)
    refine w_seq ?_
    refine w_run [0] ?_
    refine t_done [(.agg [r0, (.int .i64 r1), (.int .i64 r2), (.int .i64 r3)]), (.int .i64 0), (.agg [r0, (.int .i64 r1), (.int .i64 r2), (.int .i64 r3)]), (.bool (((len5 : Int)) == 0))] H4 (by kernel_rfl) ?_
    refine then_norm ?_
    refine w_ret ?_
    refine then_ret ?_
    exact body_ret (vs := [(.int .i64 0)]) _ (by kernel_rfl) rfl h
  · replace h := h.2 (is_eq.f hc)
    refine w_skip ?_
    refine then_norm ?_
    refine w_seq ?_
    refine w_run [0, 0, 0, 0, 1, 0, 1, 1, 0] ?_
    obtain ⟨len6, hl, h⟩ := h
    refine t_len true r0 len6 H4 (by kernel_rfl) hl ?_
    obtain ⟨e7, hg8, h⟩ := h
    refine t_idxG true 1 r0 .i64 (IntKind.wrap .i64 ((len6 : Int) - 1)) H4 (by kernel_rfl) hg8 ?_
    refine t_loadG true none 1 r0 (IntKind.wrap .i64 ((len6 : Int) - 1)) 0 (.int .i64 e7) H4 (by kernel_rfl) hg8 ?_
    refine t_done [(.agg [r0, (.int .i64 r1), (.int .i64 r2), (.int .i64 r3)]), (.int .i64 e7), (.agg [r0, (.int .i64 r1), (.int .i64 r2), (.int .i64 r3)]), (.bool (((len5 : Int)) == 0))] H4 (by kernel_rfl) ?_
    refine then_norm ?_
    refine w_ret ?_
    exact body_ret (vs := [(.int .i64 e7)]) _ (by kernel_rfl) rfl h

def rf_rollout_unused : RFunc := ⟨1, 4, [.var 1],
 ((.seq (.ops [⟨.tomb 1 (.var 0), none, (some 2), true⟩, ⟨.move (.k (.bool false)), none, (some 1), true⟩])
 ((.seq (.ops [⟨.field 0 none (.var 2), none, none, true⟩, ⟨.field 0 none (.var 2), none, none, true⟩, ⟨.bin .eql .no (.loc 1) (.k (.int .i64 1)), none, none, true⟩, ⟨.move (.loc 2), none, none, true⟩, ⟨.field 0 none (.var 2), none, none, true⟩, ⟨.field 0 none (.var 2), none, none, true⟩, ⟨.bin .eql .no (.loc 5) (.k (.int .i64 4)), none, none, true⟩, ⟨.pick (.loc 3) (.k (.bool true)) (.loc 6), none, none, true⟩, ⟨.move (.loc 7), none, (some 3), true⟩])
 ((.seq (.ops [⟨.move (.var 3), none, none, true⟩, ⟨.move (.loc 0), none, none, true⟩, ⟨.field 0 none (.var 2), none, none, true⟩, ⟨.field 2 none (.var 2), none, none, true⟩, ⟨.bin .neq .no (.loc 3) (.k (.int .i64 0)), none, none, true⟩, ⟨.pick (.loc 1) (.loc 4) (.k (.bool false)), none, none, true⟩, ⟨.move (.loc 5), none, none, true⟩, ⟨.move (.var 3), none, none, true⟩, ⟨.un .not (.loc 7), none, none, true⟩, ⟨.move (.loc 8), none, none, true⟩, ⟨.field 0 none (.var 2), none, none, true⟩, ⟨.field 1 none (.var 2), none, none, true⟩, ⟨.bin .neq .no (.loc 11) (.k (.int .i64 0)), none, none, true⟩, ⟨.pick (.loc 9) (.loc 12) (.k (.bool false)), none, none, true⟩, ⟨.pick (.loc 6) (.k (.bool true)) (.loc 13), none, none, true⟩, ⟨.move (.loc 14), none, none, true⟩, ⟨.field 0 none (.var 2), none, none, true⟩, ⟨.field 0 none (.var 2), none, none, true⟩, ⟨.bin .neq .no (.loc 17) (.k (.int .i64 2)), none, none, true⟩, ⟨.move (.loc 18), none, none, true⟩, ⟨.field 0 none (.var 2), none, none, true⟩, ⟨.field 3 (some 2) (.var 2), none, none, true⟩, ⟨.build [.int .i64 0, .int .i64 0] [], none, none, true⟩, ⟨.bin .neq (.agg [.int, .int]) (.loc 21) (.loc 22), none, none, true⟩, ⟨.pick (.loc 19) (.loc 23) (.k (.bool false)), none, none, true⟩, ⟨.pick (.loc 15) (.k (.bool true)) (.loc 24), none, none, true⟩, ⟨.move (.loc 25), none, (some 1), true⟩])
 (.ret)))))))⟩
theorem v_rollout_unused {F : Nat → Option RFunc} {me : Nat} (hF : F me = some (rf_rollout_unused )) {fl : Nat} {H : Heap} {Q : AV → Heap → Prop} (e0 : Int) (e1 : Int) (e2 : Int) (e3 : Int) (e4 : Int)
  (h : ∀ (H5 : Heap), Dead1 H 1 H5 → Q (.bool ((((((e0) == 1) || ((e0) == 4)) && ((e2) != 0)) || ((!(((e0) == 1) || ((e0) == 4))) && ((e1) != 0))) || (((e0) != 2) && (!(((e3) == 0) && (((e4) == 0) && true)))))) H5) : Ret F fl me [(.agg [(.int .i64 e0), (.int .i64 e1), (.int .i64 e2), (.int .i64 e3), (.int .i64 e4)])] H Q := by
  refine ret_intro hF rfl ?_
  refine w_seq ?_
  refine w_run [1, 0] ?_
  obtain ⟨H5, hb⟩ : ∃ H', Dead1 H 1 H' := ⟨_, ⟨rfl⟩⟩
  replace h := h H5 hb
  refine t_tomb true 1 (.agg [(.int .i64 e0), (.int .i64 e1), (.int .i64 e2), (.int .i64 e3), (.int .i64 e4)]) [(.int .i64 e0), (.int .i64 e1), (.int .i64 e2), (.int .i64 e3), (.int .i64 e4)] H5 H (by kernel_rfl) rfl hb ?_
  refine t_done [(.agg [(.int .i64 e0), (.int .i64 e1), (.int .i64 e2), (.int .i64 e3), (.int .i64 e4)]), (.bool false), (.agg [(.int .i64 e0), (.int .i64 e1), (.int .i64 e2), (.int .i64 e3), (.int .i64 e4)]), .undef] H5 (by kernel_rfl) ?_
  refine then_norm ?_
  refine w_seq ?_
  refine w_run [0, 0, 0, 0, 0, 0, 0, 0, 0] ?_
  refine t_done [(.agg [(.int .i64 e0), (.int .i64 e1), (.int .i64 e2), (.int .i64 e3), (.int .i64 e4)]), (.bool false), (.agg [(.int .i64 e0), (.int .i64 e1), (.int .i64 e2), (.int .i64 e3), (.int .i64 e4)]), (.bool (((e0) == 1) || ((e0) == 4)))] H5 (by kernel_rfl) ?_
  refine then_norm ?_
  refine w_seq ?_
  refine w_run [0, 0, 0, 0, 0, 0, 0, 0, 0, 0, 0, 0, 0, 0, 0, 0, 0, 0, 0, 0, 0, 0, 1, 0, 0, 0, 0] ?_
  refine t_build true [(.int .i64 0), (.int .i64 0)] [] [] [(.int .i64 0), (.int .i64 0)] H5 (by kernel_rfl) (by kernel_rfl) ?_
  refine t_done [(.agg [(.int .i64 e0), (.int .i64 e1), (.int .i64 e2), (.int .i64 e3), (.int .i64 e4)]), (.bool ((((((e0) == 1) || ((e0) == 4)) && ((e2) != 0)) || ((!(((e0) == 1) || ((e0) == 4))) && ((e1) != 0))) || (((e0) != 2) && (!(((e3) == 0) && (((e4) == 0) && true)))))), (.agg [(.int .i64 e0), (.int .i64 e1), (.int .i64 e2), (.int .i64 e3), (.int .i64 e4)]), (.bool (((e0) == 1) || ((e0) == 4)))] H5 (by kernel_rfl) ?_
  refine then_norm ?_
  refine w_ret ?_
  exact body_ret (vs := [(.bool ((((((e0) == 1) || ((e0) == 4)) && ((e2) != 0)) || ((!(((e0) == 1) || ((e0) == 4))) && ((e1) != 0))) || (((e0) != 2) && (!(((e3) == 0) && (((e4) == 0) && true))))))]) _ (by kernel_rfl) rfl h

def rf_rollout_plan_start (nrollout_last : Nat) : RFunc := ⟨2, 7, [.var 2],
 ((.seq (.ops [⟨.move (.k (.int .i64 0)), none, (some 2), true⟩])
 ((.seq (.ops [⟨.move (.var 0), none, none, true⟩, ⟨.nilCheck (.loc 0), none, none, true⟩, ⟨.fieldAddr 4 (.loc 1), none, none, true⟩, ⟨.load none (.loc 2), none, none, true⟩, ⟨.indexAddr 4 (.loc 3) (.k (.int .i64 0)), none, none, true⟩, ⟨.move (.loc 4), none, (some 4), true⟩])
 ((.seq (.block 0 ((.seq (.ops [⟨.move (.var 1), none, none, true⟩, ⟨.bin .lss .no (.loc 0) (.k (.int .i64 1)), none, none, true⟩, ⟨.move (.loc 1), none, none, true⟩, ⟨.move (.var 1), none, none, true⟩, ⟨.bin .gtr .no (.loc 3) (.k (.int .i64 1000000000)), none, none, true⟩, ⟨.pick (.loc 2) (.k (.bool true)) (.loc 4), none, none, true⟩, ⟨.move (.loc 5), none, (some 3), true⟩])
 (.cond (.var 3) ((.seq (.ops [⟨.move (.k (.int .i64 3)), none, (some 2), true⟩])
 (.ret))) ((.seq (.ops [⟨.move (.var 4), none, none, true⟩, ⟨.nilCheck (.loc 0), none, none, true⟩, ⟨.fieldAddr 1 (.loc 1), none, none, true⟩, ⟨.load none (.loc 2), none, none, true⟩, ⟨.bin .neq .no (.loc 3) (.k (.int .i64 0)), none, none, true⟩, ⟨.move (.loc 4), none, (some 5), true⟩])
 (.cond (.var 5) ((.seq (.ops [⟨.move (.k (.int .i64 15)), none, (some 2), true⟩])
 (.ret))) ((.seq (.ops [⟨.move (.var 1), none, none, true⟩, ⟨.move (.var 4), none, none, true⟩, ⟨.nilCheck (.loc 1), none, none, true⟩, ⟨.load (some 4) (.loc 2), none, none, true⟩, ⟨.callS nrollout_last [(.loc 3)], none, none, true⟩, ⟨.bin .leq .no (.loc 0) (.loc 4), none, none, true⟩, ⟨.move (.loc 5), none, (some 6), true⟩])
 (.cond (.var 6) ((.seq (.ops [⟨.move (.k (.int .i64 16)), none, (some 2), true⟩])
 (.ret))) (.skip)))))))))))
 ((.seq (.ops [⟨.move (.var 4), none, none, true⟩, ⟨.move (.var 1), none, none, true⟩, ⟨.nilCheck (.loc 0), none, none, true⟩, ⟨.fieldAddr 1 (.loc 2), none, none, true⟩, ⟨.store 1 (.loc 3) (.loc 1) [], none, none, true⟩])
 ((.seq (.ops [⟨.move (.k (.int .i64 0)), none, (some 2), true⟩])
 (.ret)))))))))))⟩
theorem v_rollout_plan_start {F : Nat → Option RFunc} {me nrollout_last : Nat} (hF : F me = some (rf_rollout_plan_start nrollout_last)) {fl : Nat} {H : Heap} {Q : AV → Heap → Prop} (pb0 : Nat) (po1 : Nat) (version2 : Int)
  (h : ∃ (e3 : AV), rload H none pb0 (po1 + 4) = some e3 ∧ ∃ b4 o5 : Nat, ptrA 4 e3 0 = some (b4, o5) ∧ ((((version2 < 1) ∨ (version2 > 1000000000))) → Q (.int .i64 3) H) ∧ (¬(((version2 < 1) ∨ (version2 > 1000000000))) → ∃ (e6 : Int), rload H none b4 (o5 + 1) = some (.int .i64 e6) ∧ ((e6 ≠ 0) → Q (.int .i64 15) H) ∧ (¬(e6 ≠ 0) → ∃ (e7 : AV) (e8 : Int) (e9 : Int) (e10 : Int), rload H (some 4) b4 o5 = some (.agg [e7, (.int .i64 e8), (.int .i64 e9), (.int .i64 e10)]) ∧ Ret F fl nrollout_last [(.agg [e7, (.int .i64 e8), (.int .i64 e9), (.int .i64 e10)])] H (fun v13 H12 => ∃ (r11 : Int), v13 = (.int .i64 r11) ∧ ((version2 ≤ r11) → Q (.int .i64 16) H12) ∧ (¬(version2 ≤ r11) → ∃ H14 : Heap, putA fl H12 b4 (o5 + 1) 1 (.int .i64 version2) = some H14 ∧ Q (.int .i64 0) H14))))) : Ret F fl me [(.ptr pb0 po1), (.int .i64 version2)] H Q := by
  refine ret_intro hF rfl ?_
  refine w_seq ?_
  refine w_run [0] ?_
  refine t_done [(.ptr pb0 po1), (.int .i64 version2), (.int .i64 0), .undef, .undef, .undef, .undef] H (by kernel_rfl) ?_
  refine then_norm ?_
  refine w_seq ?_
  refine w_run [0, 1, 1, 1, 1, 0] ?_
  refine t_ptr true pb0 po1 H (by kernel_rfl) ?_
  refine t_op true (.fieldAddr 4 (.loc 0)) [.ptr pb0 po1] H (.ptr pb0 (po1 + 4)) H (by kernel_rfl) rfl ?_
  obtain ⟨e3, hl, h⟩ := h
  refine t_load true none pb0 (po1 + 4) e3 H (by kernel_rfl) hl ?_
  obtain ⟨b4, o5, hp, h⟩ := h
  refine t_idx true 4 e3 .i64 0 b4 o5 H (by kernel_rfl) hp ?_
  refine t_done [(.ptr pb0 po1), (.int .i64 version2), (.int .i64 0), .undef, (.ptr b4 o5), .undef, .undef] H (by kernel_rfl) ?_
  refine then_norm ?_
  refine w_seq ?_
  refine w_block ?_
  refine w_seq ?_
  refine w_run [0, 0, 0, 0, 0, 0, 0] ?_
  refine t_done [(.ptr pb0 po1), (.int .i64 version2), (.int .i64 0), (.bool ((decide (version2 < 1)) || (decide (version2 > 1000000000)))), (.ptr b4 o5), .undef, .undef] H (by kernel_rfl) ?_
  refine then_norm ?_
  refine w_cond (t := ((decide (version2 < 1)) || (decide (version2 > 1000000000)))) rfl (fun hc => ?_) (fun hc => ?_)
  · replace h := h.1 ((is_or is_dec is_dec).t hc)
    refine w_seq ?_
    refine w_run [0] ?_
    refine t_done [(.ptr pb0 po1), (.int .i64 version2), (.int .i64 3), (.bool ((decide (version2 < 1)) || (decide (version2 > 1000000000)))), (.ptr b4 o5), .undef, .undef] H (by kernel_rfl) ?_
    refine then_norm ?_
    refine w_ret ?_
    refine block_ret ?_
    refine then_ret ?_
    exact body_ret (vs := [(.int .i64 3)]) _ (by kernel_rfl) rfl h
  · replace h := h.2 ((is_or is_dec is_dec).f hc)
    refine w_seq ?_
    refine w_run [0, 1, 1, 1, 0, 0] ?_
    refine t_ptr true b4 o5 H (by kernel_rfl) ?_
    refine t_op true (.fieldAddr 1 (.loc 0)) [.ptr b4 o5] H (.ptr b4 (o5 + 1)) H (by kernel_rfl) rfl ?_
    obtain ⟨e6, hl, h⟩ := h
    refine t_load true none b4 (o5 + 1) (.int .i64 e6) H (by kernel_rfl) hl ?_
    refine t_done [(.ptr pb0 po1), (.int .i64 version2), (.int .i64 0), (.bool ((decide (version2 < 1)) || (decide (version2 > 1000000000)))), (.ptr b4 o5), (.bool ((e6) != 0)), .undef] H (by kernel_rfl) ?_
    refine then_norm ?_
    refine w_cond (t := ((e6) != 0)) rfl (fun hc => ?_) (fun hc => ?_)
    · replace h := h.1 (is_ne.t hc)
      refine w_seq ?_
      refine w_run [0] ?_
      refine t_done [(.ptr pb0 po1), (.int .i64 version2), (.int .i64 15), (.bool ((decide (version2 < 1)) || (decide (version2 > 1000000000)))), (.ptr b4 o5), (.bool ((e6) != 0)), .undef] H (by kernel_rfl) ?_
      refine then_norm ?_
      refine w_ret ?_
      refine block_ret ?_
      refine then_ret ?_
      exact body_ret (vs := [(.int .i64 15)]) _ (by kernel_rfl) rfl h
    · replace h := h.2 (is_ne.f hc)
      refine w_seq ?_
      refine w_run [0, 0, 1, 1, 1, 0, 0] ?_
      refine t_ptr true b4 o5 H (by kernel_rfl) ?_
      obtain ⟨e7, e8, e9, e10, hl, h⟩ := h
      refine t_load true (some 4) b4 o5 (.agg [e7, (.int .i64 e8), (.int .i64 e9), (.int .i64 e10)]) H (by kernel_rfl) hl ?_
      refine t_call true nrollout_last [(.agg [e7, (.int .i64 e8), (.int .i64 e9), (.int .i64 e10)])] H (by kernel_rfl) h ?_
      clear h
      rintro _ H12 ⟨r11, rfl, h⟩
      refine t_done [(.ptr pb0 po1), (.int .i64 version2), (.int .i64 0), (.bool ((decide (version2 < 1)) || (decide (version2 > 1000000000)))), (.ptr b4 o5), (.bool ((e6) != 0)), (.bool (decide (version2 ≤ r11)))] H12 (by kernel_rfl) ?_
      refine then_norm ?_
      refine w_cond (t := (decide (version2 ≤ r11))) rfl (fun hc => ?_) (fun hc => ?_)
      · replace h := h.1 (is_dec.t hc)
        refine w_seq ?_
        refine w_run [0] ?_
        refine t_done [(.ptr pb0 po1), (.int .i64 version2), (.int .i64 16), (.bool ((decide (version2 < 1)) || (decide (version2 > 1000000000)))), (.ptr b4 o5), (.bool ((e6) != 0)), (.bool (decide (version2 ≤ r11)))] H12 (by kernel_rfl) ?_
        refine then_norm ?_
        refine w_ret ?_
        refine block_ret ?_
        refine then_ret ?_
        exact body_ret (vs := [(.int .i64 16)]) _ (by kernel_rfl) rfl h
      · replace h := h.2 (is_dec.f hc)
        refine w_skip ?_
        refine block_norm ?_
        refine then_norm ?_
        refine w_seq ?_
        refine w_run [0, 0, 1, 1, 1] ?_
        refine t_ptr true b4 o5 H12 (by kernel_rfl) ?_
        refine t_op true (.fieldAddr 1 (.loc 0)) [.ptr b4 o5] H12 (.ptr b4 (o5 + 1)) H12 (by kernel_rfl) rfl ?_
        obtain ⟨H14, hp, h⟩ := h
        refine t_store true 1 b4 (o5 + 1) (.int .i64 version2) H14 H12 (by kernel_rfl) hp ?_
        refine t_done [(.ptr pb0 po1), (.int .i64 version2), (.int .i64 0), (.bool ((decide (version2 < 1)) || (decide (version2 > 1000000000)))), (.ptr b4 o5), (.bool ((e6) != 0)), (.bool (decide (version2 ≤ r11)))] H14 (by kernel_rfl) ?_
        refine then_norm ?_
        refine w_seq ?_
        refine w_run [0] ?_
        refine t_done [(.ptr pb0 po1), (.int .i64 version2), (.int .i64 0), (.bool ((decide (version2 < 1)) || (decide (version2 > 1000000000)))), (.ptr b4 o5), (.bool ((e6) != 0)), (.bool (decide (version2 ≤ r11)))] H14 (by kernel_rfl) ?_
        refine then_norm ?_
        refine w_ret ?_
        exact body_ret (vs := [(.int .i64 0)]) _ (by kernel_rfl) rfl h

def rf_rollout_plan_report (ncanary_Validate ncanary_Decide nrollout_plan_abort : Nat) : RFunc := ⟨3, 12, [.var 3],
 ((.seq (.ops [⟨.tomb 1 (.var 2), none, (some 4), true⟩, ⟨.move (.k (.int .i64 0)), none, (some 3), true⟩])
 ((.seq ((.seq (.ops [⟨.field 0 (some 2) (.var 4), none, none, true⟩, ⟨.callS ncanary_Validate [(.loc 0)], none, none, true⟩, ⟨.tomb 1 (.k (.agg [.int .i64 0, .int .i64 0])), none, (some 5), true⟩, ⟨.upd 2 0 (.loc 2) (.loc 1), none, (some 5), true⟩])
 ((.seq (.ops [⟨.field 0 (some 2) (.var 5), none, none, true⟩, ⟨.build [.int .i64 0, .int .i64 0] [], none, none, true⟩, ⟨.bin .neq (.agg [.int, .int]) (.loc 0) (.loc 1), none, (some 6), true⟩])
 (.cond (.var 6) ((.seq (.ops [⟨.field 0 none (.var 5), none, none, true⟩, ⟨.field 0 none (.var 5), none, none, true⟩, ⟨.move (.loc 1), none, (some 3), true⟩])
 (.ret))) (.skip))))))
 ((.seq ((.seq (.ops [⟨.move (.var 1), none, none, true⟩, ⟨.nilCheck (.loc 0), none, none, true⟩, ⟨.fieldAddr 1 (.loc 1), none, none, true⟩, ⟨.load none (.loc 2), none, none, true⟩, ⟨.bin .eql .no (.loc 3) (.k (.int .i64 0)), none, (some 7), true⟩])
 (.cond (.var 7) ((.seq (.ops [⟨.move (.k (.int .i64 11)), none, (some 3), true⟩])
 (.ret))) (.skip))))
 ((.seq (.ops [⟨.move (.var 1), none, none, false⟩, ⟨.nilCheck (.loc 0), none, none, false⟩, ⟨.fieldAddr 2 (.loc 1), none, none, false⟩, ⟨.fieldAddr 0 (.loc 2), none, none, false⟩, ⟨.load none (.loc 3), none, none, false⟩, ⟨.field 0 none (.var 4), none, none, false⟩, ⟨.field 0 none (.var 4), none, none, false⟩, ⟨.bin .add .no (.loc 4) (.loc 6), none, none, false⟩, ⟨.move (.var 1), none, none, false⟩, ⟨.nilCheck (.loc 8), none, none, false⟩, ⟨.fieldAddr 2 (.loc 9), none, none, false⟩, ⟨.fieldAddr 1 (.loc 10), none, none, false⟩, ⟨.load none (.loc 11), none, none, false⟩, ⟨.field 0 none (.var 4), none, none, false⟩, ⟨.field 1 none (.var 4), none, none, false⟩, ⟨.bin .add .no (.loc 12) (.loc 14), none, none, false⟩, ⟨.build [.int .i64 0, .int .i64 0] [(0, 1, (.loc 7)), (1, 1, (.loc 15))], none, none, false⟩, ⟨.tomb 1 (.k (.agg [.int .i64 0, .int .i64 0])), none, (some 8), false⟩, ⟨.upd 2 0 (.loc 17) (.loc 16), none, (some 8), true⟩])
 ((.seq ((.seq (.ops [⟨.field 0 (some 2) (.var 8), none, none, true⟩, ⟨.callS ncanary_Validate [(.loc 0)], none, none, true⟩, ⟨.build [.int .i64 0, .int .i64 0] [], none, none, true⟩, ⟨.bin .neq (.agg [.int, .int]) (.loc 1) (.loc 2), none, (some 9), true⟩])
 (.cond (.var 9) ((.seq (.ops [⟨.move (.k (.int .i64 10)), none, (some 3), true⟩])
 (.ret))) (.skip))))
 ((.seq (.ops [⟨.move (.var 1), none, none, true⟩, ⟨.field 0 (some 2) (.var 8), none, none, true⟩, ⟨.nilCheck (.loc 0), none, none, true⟩, ⟨.fieldAddr 2 (.loc 2), none, none, true⟩, ⟨.store 2 (.loc 3) (.loc 1) [], none, none, true⟩])
 ((.seq ((.seq (.ops [⟨.move (.var 0), none, none, false⟩, ⟨.nilCheck (.loc 0), none, none, false⟩, ⟨.fieldAddr 0 (.loc 1), none, none, false⟩, ⟨.load (some 2) (.loc 2), none, none, false⟩, ⟨.field 0 (some 2) (.var 8), none, none, false⟩, ⟨.move (.var 0), none, none, false⟩, ⟨.nilCheck (.loc 5), none, none, false⟩, ⟨.fieldAddr 2 (.loc 6), none, none, false⟩, ⟨.load none (.loc 7), none, none, false⟩, ⟨.move (.var 0), none, none, false⟩, ⟨.nilCheck (.loc 9), none, none, false⟩, ⟨.fieldAddr 3 (.loc 10), none, none, false⟩, ⟨.load none (.loc 11), none, none, false⟩, ⟨.callS ncanary_Decide [(.loc 3), (.loc 4), (.loc 8), (.loc 12)], none, none, false⟩, ⟨.move (.loc 13), none, none, false⟩, ⟨.extract (.loc 14) 0, none, none, false⟩, ⟨.extract (.loc 14) 1, none, none, false⟩, ⟨.alloc 1 [.int .i64 0, .int .i64 0], none, none, false⟩, ⟨.move (.loc 15), none, (some 10), true⟩, ⟨.store 2 (.loc 17) (.loc 16) [], none, none, true⟩])
 ((.seq (.ops [⟨.move (.var 10), none, none, true⟩, ⟨.bin .eql .no (.loc 0) (.k (.int .i64 3)), none, (some 11), true⟩])
 (.cond (.var 11) (.ops [⟨.move (.var 0), none, none, true⟩, ⟨.move (.var 1), none, none, true⟩, ⟨.nilCheck (.loc 1), none, none, true⟩, ⟨.fieldAddr 1 (.loc 2), none, none, true⟩, ⟨.load none (.loc 3), none, none, true⟩, ⟨.callS nrollout_plan_abort [(.loc 0), (.loc 4)], none, none, true⟩]) (.skip))))))
 ((.seq (.ops [⟨.move (.k (.int .i64 0)), none, (some 3), true⟩])
 (.ret)))))))))))))))))⟩
theorem v_rollout_plan_report {F : Nat → Option RFunc} {me ncanary_Validate ncanary_Decide nrollout_plan_abort : Nat} (hF : F me = some (rf_rollout_plan_report ncanary_Validate ncanary_Decide nrollout_plan_abort)) {fl : Nat} {H : Heap} {Q : AV → Heap → Prop} (pb0 : Nat) (po1 : Nat) (rb2 : Nat) (ro3 : Nat) (c4 : Int) (c5 : Int)
  (h : ∀ (H6 : Heap), Dead1 H 1 H6 → Ret F fl ncanary_Validate [(.agg [(.int .i64 c4), (.int .i64 c5)])] H6 (fun v10 H9 => ∃ (r7 : Int) (r8 : Int), v10 = (.agg [(.int .i64 r7), (.int .i64 r8)]) ∧ ∀ (H11 : Heap), Dead1 H9 1 H11 → ((¬(((r7 = 0) ∧ (((r8 = 0) ∧ (True)))))) → Q (.int .i64 r7) H11) ∧ (¬(¬(((r7 = 0) ∧ (((r8 = 0) ∧ (True)))))) → ∃ (e12 : Int), rload H11 none rb2 (ro3 + 1) = some (.int .i64 e12) ∧ ((e12 = 0) → Q (.int .i64 11) H11) ∧ (¬(e12 = 0) → ∃ (e13 : Int), rload H11 none rb2 (ro3 + 2) = some (.int .i64 e13) ∧ ∃ (e14 : Int), rload H11 none rb2 ((ro3 + 2) + 1) = some (.int .i64 e14) ∧ ∀ (H15 : Heap), Dead1 H11 1 H15 → Ret F fl ncanary_Validate [(.agg [(.int .i64 (IntKind.wrap .i64 (e13 + c4))), (.int .i64 (IntKind.wrap .i64 (e14 + c5)))])] H15 (fun v19 H18 => ∃ (r16 : Int) (r17 : Int), v19 = (.agg [(.int .i64 r16), (.int .i64 r17)]) ∧ ((¬(((r16 = 0) ∧ (((r17 = 0) ∧ (True)))))) → Q (.int .i64 10) H18) ∧ (¬(¬(((r16 = 0) ∧ (((r17 = 0) ∧ (True)))))) → ∃ H20 : Heap, putA fl H18 rb2 (ro3 + 2) 2 (.agg [(.int .i64 (IntKind.wrap .i64 (e13 + c4))), (.int .i64 (IntKind.wrap .i64 (e14 + c5)))]) = some H20 ∧ ∃ (e21 : Int) (e22 : Int), rload H20 (some 2) pb0 po1 = some (.agg [(.int .i64 e21), (.int .i64 e22)]) ∧ ∃ (e23 : Int), rload H20 none pb0 (po1 + 2) = some (.int .i64 e23) ∧ ∃ (e24 : Int), rload H20 none pb0 (po1 + 3) = some (.int .i64 e24) ∧ Ret F H20.length ncanary_Decide [(.agg [(.int .i64 e21), (.int .i64 e22)]), (.agg [(.int .i64 (IntKind.wrap .i64 (e13 + c4))), (.int .i64 (IntKind.wrap .i64 (e14 + c5)))]), (.int .i64 e23), (.int .i64 e24)] H20 (fun v29 H28 => ∃ (r25 : Int) (r26 : Int) (r27 : Int), v29 = (.tuple [(.int .i64 r25), (.agg [(.int .i64 r26), (.int .i64 r27)])]) ∧ ∀ (b30 : Nat) (H31 : Heap), NewB H28 1 [(.int .i64 0), (.int .i64 0)] b30 H31 → ∃ H32 : Heap, putA fl H31 b30 0 2 (.agg [(.int .i64 r26), (.int .i64 r27)]) = some H32 ∧ ((r25 = 3) → ∃ (e33 : Int), rload H32 none rb2 (ro3 + 1) = some (.int .i64 e33) ∧ Ret F fl nrollout_plan_abort [(.ptr pb0 po1), (.int .i64 e33)] H32 (fun v36 H35 => ∃ (r34 : Bool), v36 = (.bool r34) ∧ Q (.int .i64 0) H35)) ∧ (¬(r25 = 3) → Q (.int .i64 0) H32)))))))) : Ret F fl me [(.ptr pb0 po1), (.ptr rb2 ro3), (.agg [(.int .i64 c4), (.int .i64 c5)])] H Q := by
  refine ret_intro hF rfl ?_
  refine w_seq ?_
  refine w_run [1, 0] ?_
  obtain ⟨H6, hb⟩ : ∃ H', Dead1 H 1 H' := ⟨_, ⟨rfl⟩⟩
  replace h := h H6 hb
  refine t_tomb true 1 (.agg [(.int .i64 c4), (.int .i64 c5)]) [(.int .i64 c4), (.int .i64 c5)] H6 H (by kernel_rfl) rfl hb ?_
  refine t_done [(.ptr pb0 po1), (.ptr rb2 ro3), (.agg [(.int .i64 c4), (.int .i64 c5)]), (.int .i64 0), (.agg [(.int .i64 c4), (.int .i64 c5)]), .undef, .undef, .undef, .undef, .undef, .undef, .undef] H6 (by kernel_rfl) ?_
  refine then_norm ?_
  refine w_seq ?_
  refine w_seq ?_
  refine w_run [0, 1, 1, 1] ?_
  refine t_call true ncanary_Validate [(.agg [(.int .i64 c4), (.int .i64 c5)])] H6 (by kernel_rfl) h ?_
  clear h
  rintro _ H9 ⟨r7, r8, rfl, h⟩
  obtain ⟨H11, hb⟩ : ∃ H', Dead1 H9 1 H' := ⟨_, ⟨rfl⟩⟩
  replace h := h H11 hb
  refine t_tomb true 1 (.agg [(.int .i64 0), (.int .i64 0)]) [(.int .i64 0), (.int .i64 0)] H11 H9 (by kernel_rfl) rfl hb ?_
  refine t_upd true 2 0 [(.int .i64 0), (.int .i64 0)] (.agg [(.int .i64 r7), (.int .i64 r8)]) [(.int .i64 r7), (.int .i64 r8)] [(.int .i64 r7), (.int .i64 r8)] H11 (by kernel_rfl) rfl (all_c rfl (all_c rfl all_n)) ⟨rfl, Nat.le_of_ble_eq_true (by kernel_rfl), rfl⟩ ?_
  refine t_done [(.ptr pb0 po1), (.ptr rb2 ro3), (.agg [(.int .i64 c4), (.int .i64 c5)]), (.int .i64 0), (.agg [(.int .i64 c4), (.int .i64 c5)]), (.agg [(.int .i64 r7), (.int .i64 r8)]), .undef, .undef, .undef, .undef, .undef, .undef] H11 (by kernel_rfl) ?_
  refine then_norm ?_
  refine w_seq ?_
  refine w_run [0, 1, 0] ?_
  refine t_build true [(.int .i64 0), (.int .i64 0)] [] [] [(.int .i64 0), (.int .i64 0)] H11 (by kernel_rfl) (by kernel_rfl) ?_
  refine t_done [(.ptr pb0 po1), (.ptr rb2 ro3), (.agg [(.int .i64 c4), (.int .i64 c5)]), (.int .i64 0), (.agg [(.int .i64 c4), (.int .i64 c5)]), (.agg [(.int .i64 r7), (.int .i64 r8)]), (.bool (!(((r7) == 0) && (((r8) == 0) && true)))), .undef, .undef, .undef, .undef, .undef] H11 (by kernel_rfl) ?_
  refine then_norm ?_
  refine w_cond (t := (!(((r7) == 0) && (((r8) == 0) && true)))) rfl (fun hc => ?_) (fun hc => ?_)
  · replace h := h.1 ((is_not (is_and is_eq (is_and is_eq is_true))).t hc)
    refine w_seq ?_
    refine w_run [0, 0, 0] ?_
    refine t_done [(.ptr pb0 po1), (.ptr rb2 ro3), (.agg [(.int .i64 c4), (.int .i64 c5)]), (.int .i64 r7), (.agg [(.int .i64 c4), (.int .i64 c5)]), (.agg [(.int .i64 r7), (.int .i64 r8)]), (.bool (!(((r7) == 0) && (((r8) == 0) && true)))), .undef, .undef, .undef, .undef, .undef] H11 (by kernel_rfl) ?_
    refine then_norm ?_
    refine w_ret ?_
    refine then_ret ?_
    exact body_ret (vs := [(.int .i64 r7)]) _ (by kernel_rfl) rfl h
  · replace h := h.2 ((is_not (is_and is_eq (is_and is_eq is_true))).f hc)
    refine w_skip ?_
    refine then_norm ?_
    refine w_seq ?_
    refine w_seq ?_
    refine w_run [0, 1, 1, 1, 0] ?_
    refine t_ptr true rb2 ro3 H11 (by kernel_rfl) ?_
    refine t_op true (.fieldAddr 1 (.loc 0)) [.ptr rb2 ro3] H11 (.ptr rb2 (ro3 + 1)) H11 (by kernel_rfl) rfl ?_
    obtain ⟨e12, hl, h⟩ := h
    refine t_load true none rb2 (ro3 + 1) (.int .i64 e12) H11 (by kernel_rfl) hl ?_
    refine t_done [(.ptr pb0 po1), (.ptr rb2 ro3), (.agg [(.int .i64 c4), (.int .i64 c5)]), (.int .i64 0), (.agg [(.int .i64 c4), (.int .i64 c5)]), (.agg [(.int .i64 r7), (.int .i64 r8)]), (.bool (!(((r7) == 0) && (((r8) == 0) && true)))), (.bool ((e12) == 0)), .undef, .undef, .undef, .undef] H11 (by kernel_rfl) ?_
    refine then_norm ?_
    refine w_cond (t := ((e12) == 0)) rfl (fun hc => ?_) (fun hc => ?_)
    · replace h := h.1 (is_eq.t hc)
      refine w_seq ?_
      refine w_run [0] ?_
      refine t_done [(.ptr pb0 po1), (.ptr rb2 ro3), (.agg [(.int .i64 c4), (.int .i64 c5)]), (.int .i64 11), (.agg [(.int .i64 c4), (.int .i64 c5)]), (.agg [(.int .i64 r7), (.int .i64 r8)]), (.bool (!(((r7) == 0) && (((r8) == 0) && true)))), (.bool ((e12) == 0)), .undef, .undef, .undef, .undef] H11 (by kernel_rfl) ?_
      refine then_norm ?_
      refine w_ret ?_
      refine then_ret ?_
      exact body_ret (vs := [(.int .i64 11)]) _ (by kernel_rfl) rfl h
    · replace h := h.2 (is_eq.f hc)
      refine w_skip ?_
      refine then_norm ?_
      refine w_seq ?_
      refine w_run [0, 1, 1, 1, 1, 0, 0, 0, 0, 1, 1, 1, 1, 0, 0, 0, 1, 1, 1] ?_
      refine t_ptr false rb2 ro3 H11 (by kernel_rfl) ?_
      refine t_op false (.fieldAddr 2 (.loc 0)) [.ptr rb2 ro3] H11 (.ptr rb2 (ro3 + 2)) H11 (by kernel_rfl) rfl ?_
      refine t_op false (.fieldAddr 0 (.loc 0)) [.ptr rb2 (ro3 + 2)] H11 (.ptr rb2 (ro3 + 2)) H11 (by kernel_rfl) rfl ?_
      obtain ⟨e13, hl, h⟩ := h
      refine t_load false none rb2 (ro3 + 2) (.int .i64 e13) H11 (by kernel_rfl) hl ?_
      refine t_ptr false rb2 ro3 H11 (by kernel_rfl) ?_
      refine t_op false (.fieldAddr 2 (.loc 0)) [.ptr rb2 ro3] H11 (.ptr rb2 (ro3 + 2)) H11 (by kernel_rfl) rfl ?_
      refine t_op false (.fieldAddr 1 (.loc 0)) [.ptr rb2 (ro3 + 2)] H11 (.ptr rb2 ((ro3 + 2) + 1)) H11 (by kernel_rfl) rfl ?_
      obtain ⟨e14, hl, h⟩ := h
      refine t_load false none rb2 ((ro3 + 2) + 1) (.int .i64 e14) H11 (by kernel_rfl) hl ?_
      refine t_build false [(.int .i64 0), (.int .i64 0)] [(0, 1, .loc 0), (1, 1, .loc 1)] [(.int .i64 (IntKind.wrap .i64 (e13 + c4))), (.int .i64 (IntKind.wrap .i64 (e14 + c5)))] [(.int .i64 (IntKind.wrap .i64 (e13 + c4))), (.int .i64 (IntKind.wrap .i64 (e14 + c5)))] H11 (by kernel_rfl) (fill_c (vs := [(.int .i64 (IntKind.wrap .i64 (e13 + c4)))]) (size := 1) rfl (by kernel_rfl) (by kernel_rfl) (fill_c (vs := [(.int .i64 (IntKind.wrap .i64 (e14 + c5)))]) (size := 1) rfl (by kernel_rfl) (by kernel_rfl) (by kernel_rfl))) ?_
      obtain ⟨H15, hb⟩ : ∃ H', Dead1 H11 1 H' := ⟨_, ⟨rfl⟩⟩
      replace h := h H15 hb
      refine t_tomb false 1 (.agg [(.int .i64 0), (.int .i64 0)]) [(.int .i64 0), (.int .i64 0)] H15 H11 (by kernel_rfl) rfl hb ?_
      refine t_upd true 2 0 [(.int .i64 0), (.int .i64 0)] (.agg [(.int .i64 (IntKind.wrap .i64 (e13 + c4))), (.int .i64 (IntKind.wrap .i64 (e14 + c5)))]) [(.int .i64 (IntKind.wrap .i64 (e13 + c4))), (.int .i64 (IntKind.wrap .i64 (e14 + c5)))] [(.int .i64 (IntKind.wrap .i64 (e13 + c4))), (.int .i64 (IntKind.wrap .i64 (e14 + c5)))] H15 (by kernel_rfl) rfl (all_c rfl (all_c rfl all_n)) ⟨rfl, Nat.le_of_ble_eq_true (by kernel_rfl), rfl⟩ ?_
      refine t_done [(.ptr pb0 po1), (.ptr rb2 ro3), (.agg [(.int .i64 c4), (.int .i64 c5)]), (.int .i64 0), (.agg [(.int .i64 c4), (.int .i64 c5)]), (.agg [(.int .i64 r7), (.int .i64 r8)]), (.bool (!(((r7) == 0) && (((r8) == 0) && true)))), (.bool ((e12) == 0)), (.agg [(.int .i64 (IntKind.wrap .i64 (e13 + c4))), (.int .i64 (IntKind.wrap .i64 (e14 + c5)))]), .undef, .undef, .undef] H15 (by kernel_rfl) ?_
      refine then_norm ?_
      refine w_seq ?_
      refine w_seq ?_
      refine w_run [0, 1, 1, 0] ?_
      refine t_call true ncanary_Validate [(.agg [(.int .i64 (IntKind.wrap .i64 (e13 + c4))), (.int .i64 (IntKind.wrap .i64 (e14 + c5)))])] H15 (by kernel_rfl) h ?_
      clear h
      rintro _ H18 ⟨r16, r17, rfl, h⟩
      refine t_build true [(.int .i64 0), (.int .i64 0)] [] [] [(.int .i64 0), (.int .i64 0)] H18 (by kernel_rfl) (by kernel_rfl) ?_
      refine t_done [(.ptr pb0 po1), (.ptr rb2 ro3), (.agg [(.int .i64 c4), (.int .i64 c5)]), (.int .i64 0), (.agg [(.int .i64 c4), (.int .i64 c5)]), (.agg [(.int .i64 r7), (.int .i64 r8)]), (.bool (!(((r7) == 0) && (((r8) == 0) && true)))), (.bool ((e12) == 0)), (.agg [(.int .i64 (IntKind.wrap .i64 (e13 + c4))), (.int .i64 (IntKind.wrap .i64 (e14 + c5)))]), (.bool (!(((r16) == 0) && (((r17) == 0) && true)))), .undef, .undef] H18 (by kernel_rfl) ?_
      refine then_norm ?_
      refine w_cond (t := (!(((r16) == 0) && (((r17) == 0) && true)))) rfl (fun hc => ?_) (fun hc => ?_)
      · replace h := h.1 ((is_not (is_and is_eq (is_and is_eq is_true))).t hc)
        refine w_seq ?_
        refine w_run [0] ?_
        refine t_done [(.ptr pb0 po1), (.ptr rb2 ro3), (.agg [(.int .i64 c4), (.int .i64 c5)]), (.int .i64 10), (.agg [(.int .i64 c4), (.int .i64 c5)]), (.agg [(.int .i64 r7), (.int .i64 r8)]), (.bool (!(((r7) == 0) && (((r8) == 0) && true)))), (.bool ((e12) == 0)), (.agg [(.int .i64 (IntKind.wrap .i64 (e13 + c4))), (.int .i64 (IntKind.wrap .i64 (e14 + c5)))]), (.bool (!(((r16) == 0) && (((r17) == 0) && true)))), .undef, .undef] H18 (by kernel_rfl) ?_
        refine then_norm ?_
        refine w_ret ?_
        refine then_ret ?_
        exact body_ret (vs := [(.int .i64 10)]) _ (by kernel_rfl) rfl h
      · replace h := h.2 ((is_not (is_and is_eq (is_and is_eq is_true))).f hc)
        refine w_skip ?_
        refine then_norm ?_
        refine w_seq ?_
        refine w_run [0, 0, 1, 1, 1] ?_
        refine t_ptr true rb2 ro3 H18 (by kernel_rfl) ?_
        refine t_op true (.fieldAddr 2 (.loc 0)) [.ptr rb2 ro3] H18 (.ptr rb2 (ro3 + 2)) H18 (by kernel_rfl) rfl ?_
        obtain ⟨H20, hp, h⟩ := h
        refine t_store true 2 rb2 (ro3 + 2) (.agg [(.int .i64 (IntKind.wrap .i64 (e13 + c4))), (.int .i64 (IntKind.wrap .i64 (e14 + c5)))]) H20 H18 (by kernel_rfl) hp ?_
        refine t_done [(.ptr pb0 po1), (.ptr rb2 ro3), (.agg [(.int .i64 c4), (.int .i64 c5)]), (.int .i64 0), (.agg [(.int .i64 c4), (.int .i64 c5)]), (.agg [(.int .i64 r7), (.int .i64 r8)]), (.bool (!(((r7) == 0) && (((r8) == 0) && true)))), (.bool ((e12) == 0)), (.agg [(.int .i64 (IntKind.wrap .i64 (e13 + c4))), (.int .i64 (IntKind.wrap .i64 (e14 + c5)))]), (.bool (!(((r16) == 0) && (((r17) == 0) && true)))), .undef, .undef] H20 (by kernel_rfl) ?_
        refine then_norm ?_
        refine w_seq ?_
        refine w_seq ?_
        refine w_run [0, 1, 1, 1, 0, 0, 1, 1, 1, 0, 1, 1, 1, 1, 0, 0, 0, 1, 0, 1] ?_
        refine t_ptr false pb0 po1 H20 (by kernel_rfl) ?_
        refine t_op false (.fieldAddr 0 (.loc 0)) [.ptr pb0 po1] H20 (.ptr pb0 po1) H20 (by kernel_rfl) rfl ?_
        obtain ⟨e21, e22, hl, h⟩ := h
        refine t_load false (some 2) pb0 po1 (.agg [(.int .i64 e21), (.int .i64 e22)]) H20 (by kernel_rfl) hl ?_
        refine t_ptr false pb0 po1 H20 (by kernel_rfl) ?_
        refine t_op false (.fieldAddr 2 (.loc 0)) [.ptr pb0 po1] H20 (.ptr pb0 (po1 + 2)) H20 (by kernel_rfl) rfl ?_
        obtain ⟨e23, hl, h⟩ := h
        refine t_load false none pb0 (po1 + 2) (.int .i64 e23) H20 (by kernel_rfl) hl ?_
        refine t_ptr false pb0 po1 H20 (by kernel_rfl) ?_
        refine t_op false (.fieldAddr 3 (.loc 0)) [.ptr pb0 po1] H20 (.ptr pb0 (po1 + 3)) H20 (by kernel_rfl) rfl ?_
        obtain ⟨e24, hl, h⟩ := h
        refine t_load false none pb0 (po1 + 3) (.int .i64 e24) H20 (by kernel_rfl) hl ?_
        refine t_call false ncanary_Decide [(.agg [(.int .i64 e21), (.int .i64 e22)]), (.agg [(.int .i64 (IntKind.wrap .i64 (e13 + c4))), (.int .i64 (IntKind.wrap .i64 (e14 + c5)))]), (.int .i64 e23), (.int .i64 e24)] H20 (by kernel_rfl) h ?_
        clear h
        rintro _ H28 ⟨r25, r26, r27, rfl, h⟩
        obtain ⟨b30, H31, hb⟩ : ∃ b H', NewB H28 1 [(.int .i64 0), (.int .i64 0)] b H' := ⟨_, _, rfl, rfl⟩
        replace h := h b30 H31 hb
        refine t_alloc false 1 [(.int .i64 0), (.int .i64 0)] b30 H31 H28 (by kernel_rfl) hb ?_
        obtain ⟨H32, hp, h⟩ := h
        refine t_store true 2 b30 0 (.agg [(.int .i64 r26), (.int .i64 r27)]) H32 H31 (by kernel_rfl) hp ?_
        refine t_done [(.ptr pb0 po1), (.ptr rb2 ro3), (.agg [(.int .i64 c4), (.int .i64 c5)]), (.int .i64 0), (.agg [(.int .i64 c4), (.int .i64 c5)]), (.agg [(.int .i64 r7), (.int .i64 r8)]), (.bool (!(((r7) == 0) && (((r8) == 0) && true)))), (.bool ((e12) == 0)), (.agg [(.int .i64 (IntKind.wrap .i64 (e13 + c4))), (.int .i64 (IntKind.wrap .i64 (e14 + c5)))]), (.bool (!(((r16) == 0) && (((r17) == 0) && true)))), (.int .i64 r25), .undef] H32 (by kernel_rfl) ?_
        refine then_norm ?_
        refine w_seq ?_
        refine w_run [0, 0] ?_
        refine t_done [(.ptr pb0 po1), (.ptr rb2 ro3), (.agg [(.int .i64 c4), (.int .i64 c5)]), (.int .i64 0), (.agg [(.int .i64 c4), (.int .i64 c5)]), (.agg [(.int .i64 r7), (.int .i64 r8)]), (.bool (!(((r7) == 0) && (((r8) == 0) && true)))), (.bool ((e12) == 0)), (.agg [(.int .i64 (IntKind.wrap .i64 (e13 + c4))), (.int .i64 (IntKind.wrap .i64 (e14 + c5)))]), (.bool (!(((r16) == 0) && (((r17) == 0) && true)))), (.int .i64 r25), (.bool ((r25) == 3))] H32 (by kernel_rfl) ?_
        refine then_norm ?_
        refine w_cond (t := ((r25) == 3)) rfl (fun hc => ?_) (fun hc => ?_)
        · replace h := h.1 (is_eq.t hc)
          refine w_run [0, 0, 1, 1, 1, 1] ?_
          refine t_ptr true rb2 ro3 H32 (by kernel_rfl) ?_
          refine t_op true (.fieldAddr 1 (.loc 0)) [.ptr rb2 ro3] H32 (.ptr rb2 (ro3 + 1)) H32 (by kernel_rfl) rfl ?_
          obtain ⟨e33, hl, h⟩ := h
          refine t_load true none rb2 (ro3 + 1) (.int .i64 e33) H32 (by kernel_rfl) hl ?_
          refine t_call true nrollout_plan_abort [(.ptr pb0 po1), (.int .i64 e33)] H32 (by kernel_rfl) h ?_
          clear h
          rintro _ H35 ⟨r34, rfl, h⟩
          refine t_done [(.ptr pb0 po1), (.ptr rb2 ro3), (.agg [(.int .i64 c4), (.int .i64 c5)]), (.int .i64 0), (.agg [(.int .i64 c4), (.int .i64 c5)]), (.agg [(.int .i64 r7), (.int .i64 r8)]), (.bool (!(((r7) == 0) && (((r8) == 0) && true)))), (.bool ((e12) == 0)), (.agg [(.int .i64 (IntKind.wrap .i64 (e13 + c4))), (.int .i64 (IntKind.wrap .i64 (e14 + c5)))]), (.bool (!(((r16) == 0) && (((r17) == 0) && true)))), (.int .i64 r25), (.bool ((r25) == 3))] H35 (by kernel_rfl) ?_
          refine then_norm ?_
          refine w_seq ?_
          refine w_run [0] ?_
          refine t_done [(.ptr pb0 po1), (.ptr rb2 ro3), (.agg [(.int .i64 c4), (.int .i64 c5)]), (.int .i64 0), (.agg [(.int .i64 c4), (.int .i64 c5)]), (.agg [(.int .i64 r7), (.int .i64 r8)]), (.bool (!(((r7) == 0) && (((r8) == 0) && true)))), (.bool ((e12) == 0)), (.agg [(.int .i64 (IntKind.wrap .i64 (e13 + c4))), (.int .i64 (IntKind.wrap .i64 (e14 + c5)))]), (.bool (!(((r16) == 0) && (((r17) == 0) && true)))), (.int .i64 r25), (.bool ((r25) == 3))] H35 (by kernel_rfl) ?_
          refine then_norm ?_
          refine w_ret ?_
          exact body_ret (vs := [(.int .i64 0)]) _ (by kernel_rfl) rfl h
        · replace h := h.2 (is_eq.f hc)
          refine w_skip ?_
          refine then_norm ?_
          refine w_seq ?_
          refine w_run [0] ?_
          refine t_done [(.ptr pb0 po1), (.ptr rb2 ro3), (.agg [(.int .i64 c4), (.int .i64 c5)]), (.int .i64 0), (.agg [(.int .i64 c4), (.int .i64 c5)]), (.agg [(.int .i64 r7), (.int .i64 r8)]), (.bool (!(((r7) == 0) && (((r8) == 0) && true)))), (.bool ((e12) == 0)), (.agg [(.int .i64 (IntKind.wrap .i64 (e13 + c4))), (.int .i64 (IntKind.wrap .i64 (e14 + c5)))]), (.bool (!(((r16) == 0) && (((r17) == 0) && true)))), (.int .i64 r25), (.bool ((r25) == 3))] H32 (by kernel_rfl) ?_
          refine then_norm ?_
          refine w_ret ?_
          exact body_ret (vs := [(.int .i64 0)]) _ (by kernel_rfl) rfl h

def rf_rollout_plan_advance (ncanary_Decide : Nat) : RFunc := ⟨2, 10, [.var 2],
 ((.seq (.ops [⟨.move (.k (.int .i64 0)), none, (some 2), true⟩])
 ((.seq (.ops [⟨.move (.var 0), none, none, true⟩, ⟨.nilCheck (.loc 0), none, none, true⟩, ⟨.fieldAddr 4 (.loc 1), none, none, true⟩, ⟨.load none (.loc 2), none, none, true⟩, ⟨.move (.var 1), none, none, true⟩, ⟨.indexAddr 4 (.loc 3) (.loc 4), none, none, true⟩, ⟨.move (.loc 5), none, (some 3), true⟩])
 ((.seq ((.seq (.ops [⟨.move (.var 3), none, none, true⟩, ⟨.nilCheck (.loc 0), none, none, true⟩, ⟨.fieldAddr 1 (.loc 1), none, none, true⟩, ⟨.load none (.loc 2), none, none, true⟩, ⟨.bin .eql .no (.loc 3) (.k (.int .i64 0)), none, (some 4), true⟩])
 (.cond (.var 4) ((.seq (.ops [⟨.move (.k (.int .i64 11)), none, (some 2), true⟩])
 (.ret))) (.skip))))
 ((.seq ((.seq (.ops [⟨.move (.var 0), none, none, false⟩, ⟨.nilCheck (.loc 0), none, none, false⟩, ⟨.fieldAddr 0 (.loc 1), none, none, false⟩, ⟨.load (some 2) (.loc 2), none, none, false⟩, ⟨.move (.var 3), none, none, false⟩, ⟨.nilCheck (.loc 4), none, none, false⟩, ⟨.fieldAddr 2 (.loc 5), none, none, false⟩, ⟨.load (some 2) (.loc 6), none, none, false⟩, ⟨.move (.var 0), none, none, false⟩, ⟨.nilCheck (.loc 8), none, none, false⟩, ⟨.fieldAddr 2 (.loc 9), none, none, false⟩, ⟨.load none (.loc 10), none, none, false⟩, ⟨.move (.var 0), none, none, false⟩, ⟨.nilCheck (.loc 12), none, none, false⟩, ⟨.fieldAddr 3 (.loc 13), none, none, false⟩, ⟨.load none (.loc 14), none, none, false⟩, ⟨.callS ncanary_Decide [(.loc 3), (.loc 7), (.loc 11), (.loc 15)], none, none, false⟩, ⟨.move (.loc 16), none, none, false⟩, ⟨.extract (.loc 17) 0, none, none, false⟩, ⟨.extract (.loc 17) 1, none, none, false⟩, ⟨.alloc 1 [.int .i64 0, .int .i64 0], none, none, false⟩, ⟨.move (.loc 18), none, (some 5), true⟩, ⟨.store 2 (.loc 20) (.loc 19) [], none, none, true⟩])
 ((.seq (.ops [⟨.move (.var 5), none, none, true⟩, ⟨.bin .neq .no (.loc 0) (.k (.int .i64 2)), none, (some 6), true⟩])
 (.cond (.var 6) ((.seq (.ops [⟨.move (.k (.int .i64 11)), none, (some 2), true⟩])
 (.ret))) (.skip))))))
 ((.seq ((.seq (.ops [⟨.move (.var 1), none, none, true⟩, ⟨.bin .add .no (.loc 0) (.k (.int .i64 1)), none, none, true⟩, ⟨.move (.var 0), none, none, true⟩, ⟨.nilCheck (.loc 2), none, none, true⟩, ⟨.fieldAddr 4 (.loc 3), none, none, true⟩, ⟨.load none (.loc 4), none, none, true⟩, ⟨.len (.loc 5), none, none, true⟩, ⟨.bin .lss .no (.loc 1) (.loc 6), none, (some 7), true⟩])
 (.cond (.var 7) ((.seq (.ops [⟨.move (.var 0), none, none, true⟩, ⟨.nilCheck (.loc 0), none, none, true⟩, ⟨.fieldAddr 4 (.loc 1), none, none, true⟩, ⟨.load none (.loc 2), none, none, true⟩, ⟨.move (.var 1), none, none, true⟩, ⟨.bin .add .no (.loc 4) (.k (.int .i64 1)), none, none, true⟩, ⟨.indexAddr 4 (.loc 3) (.loc 5), none, none, true⟩, ⟨.move (.loc 6), none, (some 8), true⟩])
 ((.seq ((.seq (.ops [⟨.move (.var 8), none, none, true⟩, ⟨.nilCheck (.loc 0), none, none, true⟩, ⟨.fieldAddr 1 (.loc 1), none, none, true⟩, ⟨.load none (.loc 2), none, none, true⟩, ⟨.bin .neq .no (.loc 3) (.k (.int .i64 0)), none, (some 9), true⟩])
 (.cond (.var 9) ((.seq (.ops [⟨.move (.k (.int .i64 15)), none, (some 2), true⟩])
 (.ret))) (.skip))))
 (.ops [⟨.move (.var 8), none, none, true⟩, ⟨.move (.var 3), none, none, true⟩, ⟨.nilCheck (.loc 1), none, none, true⟩, ⟨.fieldAddr 1 (.loc 2), none, none, true⟩, ⟨.load none (.loc 3), none, none, true⟩, ⟨.nilCheck (.loc 0), none, none, true⟩, ⟨.fieldAddr 1 (.loc 5), none, none, true⟩, ⟨.store 1 (.loc 6) (.loc 4) [], none, none, true⟩]))))) (.skip))))
 ((.seq (.ops [⟨.move (.var 3), none, none, false⟩, ⟨.move (.var 3), none, none, false⟩, ⟨.nilCheck (.loc 1), none, none, false⟩, ⟨.fieldAddr 0 (.loc 2), none, none, false⟩, ⟨.load none (.loc 3), none, none, false⟩, ⟨.move (.var 3), none, none, false⟩, ⟨.nilCheck (.loc 5), none, none, false⟩, ⟨.fieldAddr 1 (.loc 6), none, none, false⟩, ⟨.load none (.loc 7), none, none, false⟩, ⟨.buildSlice 1 [.int .i64 0] [(0, 1, (.loc 8))] 1, none, none, false⟩, ⟨.append 1 8 (.loc 4) (.loc 9), none, none, true⟩, ⟨.nilCheck (.loc 0), none, none, true⟩, ⟨.fieldAddr 0 (.loc 11), none, none, true⟩, ⟨.store 1 (.loc 12) (.loc 10) [], none, none, true⟩])
 ((.seq (.ops [⟨.move (.var 3), none, none, true⟩, ⟨.move (.var 3), none, none, true⟩, ⟨.build [.int .i64 0, .int .i64 0] [], none, none, true⟩, ⟨.nilCheck (.loc 0), none, none, true⟩, ⟨.fieldAddr 1 (.loc 3), none, none, true⟩, ⟨.store 1 (.loc 4) (.k (.int .i64 0)) [], none, none, true⟩, ⟨.nilCheck (.loc 1), none, none, true⟩, ⟨.fieldAddr 2 (.loc 6), none, none, true⟩, ⟨.store 2 (.loc 7) (.loc 2) [], none, none, true⟩])
 ((.seq (.ops [⟨.move (.k (.int .i64 0)), none, (some 2), true⟩])
 (.ret)))))))))))))))))⟩
theorem v_rollout_plan_advance {F : Nat → Option RFunc} {me ncanary_Decide : Nat} (hF : F me = some (rf_rollout_plan_advance ncanary_Decide)) {fl : Nat} {H : Heap} {Q : AV → Heap → Prop} (pb0 : Nat) (po1 : Nat) (i2 : Int)
  (h : ∃ (e3 : AV), rload H none pb0 (po1 + 4) = some e3 ∧ ∃ b4 o5 : Nat, ptrA 4 e3 i2 = some (b4, o5) ∧ ∃ (e6 : Int), rload H none b4 (o5 + 1) = some (.int .i64 e6) ∧ ((e6 = 0) → Q (.int .i64 11) H) ∧ (¬(e6 = 0) → ∃ (e7 : Int) (e8 : Int), rload H (some 2) pb0 po1 = some (.agg [(.int .i64 e7), (.int .i64 e8)]) ∧ ∃ (e9 : Int) (e10 : Int), rload H (some 2) b4 (o5 + 2) = some (.agg [(.int .i64 e9), (.int .i64 e10)]) ∧ ∃ (e11 : Int), rload H none pb0 (po1 + 2) = some (.int .i64 e11) ∧ ∃ (e12 : Int), rload H none pb0 (po1 + 3) = some (.int .i64 e12) ∧ Ret F H.length ncanary_Decide [(.agg [(.int .i64 e7), (.int .i64 e8)]), (.agg [(.int .i64 e9), (.int .i64 e10)]), (.int .i64 e11), (.int .i64 e12)] H (fun v17 H16 => ∃ (r13 : Int) (r14 : Int) (r15 : Int), v17 = (.tuple [(.int .i64 r13), (.agg [(.int .i64 r14), (.int .i64 r15)])]) ∧ ∀ (b18 : Nat) (H19 : Heap), NewB H16 1 [(.int .i64 0), (.int .i64 0)] b18 H19 → ∃ H20 : Heap, putA fl H19 b18 0 2 (.agg [(.int .i64 r14), (.int .i64 r15)]) = some H20 ∧ ((r13 ≠ 2) → Q (.int .i64 11) H20) ∧ (¬(r13 ≠ 2) → ∃ (e21 : AV), rload H20 none pb0 (po1 + 4) = some e21 ∧ ∃ len22 : Nat, lenA e21 = some len22 ∧ (((IntKind.wrap .i64 (i2 + 1)) < (len22 : Int)) → ∃ (e23 : AV), rload H20 none pb0 (po1 + 4) = some e23 ∧ ∃ b24 o25 : Nat, ptrA 4 e23 (IntKind.wrap .i64 (i2 + 1)) = some (b24, o25) ∧ ∃ (e26 : Int), rload H20 none b24 (o25 + 1) = some (.int .i64 e26) ∧ ((e26 ≠ 0) → Q (.int .i64 15) H20) ∧ (¬(e26 ≠ 0) → ∃ (e27 : Int), rload H20 none b4 (o5 + 1) = some (.int .i64 e27) ∧ ∃ H28 : Heap, putA fl H20 b24 (o25 + 1) 1 (.int .i64 e27) = some H28 ∧ ∃ (e29 : AV), rload H28 none b4 o5 = some e29 ∧ ∃ (e30 : Int), rload H28 none b4 (o5 + 1) = some (.int .i64 e30) ∧ ∀ (b31 : Nat) (H32 : Heap), NewB H28 1 [(.int .i64 e30)] b31 H32 → ∃ (a33 : AV) (H34 : Heap), appA fl true 1 8 H32 e29 (.slice b31 0 1 (some 1)) = some (a33, H34) ∧ ∃ H35 : Heap, putA fl H34 b4 o5 1 a33 = some H35 ∧ ∃ H36 : Heap, putA fl H35 b4 (o5 + 1) 1 (.int .i64 0) = some H36 ∧ ∃ H37 : Heap, putA fl H36 b4 (o5 + 2) 2 (.agg [(.int .i64 0), (.int .i64 0)]) = some H37 ∧ Q (.int .i64 0) H37)) ∧ (¬((IntKind.wrap .i64 (i2 + 1)) < (len22 : Int)) → ∃ (e38 : AV), rload H20 none b4 o5 = some e38 ∧ ∃ (e39 : Int), rload H20 none b4 (o5 + 1) = some (.int .i64 e39) ∧ ∀ (b40 : Nat) (H41 : Heap), NewB H20 1 [(.int .i64 e39)] b40 H41 → ∃ (a42 : AV) (H43 : Heap), appA fl true 1 8 H41 e38 (.slice b40 0 1 (some 1)) = some (a42, H43) ∧ ∃ H44 : Heap, putA fl H43 b4 o5 1 a42 = some H44 ∧ ∃ H45 : Heap, putA fl H44 b4 (o5 + 1) 1 (.int .i64 0) = some H45 ∧ ∃ H46 : Heap, putA fl H45 b4 (o5 + 2) 2 (.agg [(.int .i64 0), (.int .i64 0)]) = some H46 ∧ Q (.int .i64 0) H46))))) : Ret F fl me [(.ptr pb0 po1), (.int .i64 i2)] H Q := by
  refine ret_intro hF rfl ?_
  refine w_seq ?_
  refine w_run [0] ?_
  refine t_done [(.ptr pb0 po1), (.int .i64 i2), (.int .i64 0), .undef, .undef, .undef, .undef, .undef, .undef, .undef] H (by kernel_rfl) ?_
  refine then_norm ?_
  refine w_seq ?_
  refine w_run [0, 1, 1, 1, 0, 1, 0] ?_
  refine t_ptr true pb0 po1 H (by kernel_rfl) ?_
  refine t_op true (.fieldAddr 4 (.loc 0)) [.ptr pb0 po1] H (.ptr pb0 (po1 + 4)) H (by kernel_rfl) rfl ?_
  obtain ⟨e3, hl, h⟩ := h
  refine t_load true none pb0 (po1 + 4) e3 H (by kernel_rfl) hl ?_
  obtain ⟨b4, o5, hp, h⟩ := h
  refine t_idx true 4 e3 .i64 i2 b4 o5 H (by kernel_rfl) hp ?_
  refine t_done [(.ptr pb0 po1), (.int .i64 i2), (.int .i64 0), (.ptr b4 o5), .undef, .undef, .undef, .undef, .undef, .undef] H (by kernel_rfl) ?_
  refine then_norm ?_
  refine w_seq ?_
  refine w_seq ?_
  refine w_run [0, 1, 1, 1, 0] ?_
  refine t_ptr true b4 o5 H (by kernel_rfl) ?_
  refine t_op true (.fieldAddr 1 (.loc 0)) [.ptr b4 o5] H (.ptr b4 (o5 + 1)) H (by kernel_rfl) rfl ?_
  obtain ⟨e6, hl, h⟩ := h
  refine t_load true none b4 (o5 + 1) (.int .i64 e6) H (by kernel_rfl) hl ?_
  refine t_done [(.ptr pb0 po1), (.int .i64 i2), (.int .i64 0), (.ptr b4 o5), (.bool ((e6) == 0)), .undef, .undef, .undef, .undef, .undef] H (by kernel_rfl) ?_
  refine then_norm ?_
  refine w_cond (t := ((e6) == 0)) rfl (fun hc => ?_) (fun hc => ?_)
  · replace h := h.1 (is_eq.t hc)
    refine w_seq ?_
    refine w_run [0] ?_
    refine t_done [(.ptr pb0 po1), (.int .i64 i2), (.int .i64 11), (.ptr b4 o5), (.bool ((e6) == 0)), .undef, .undef, .undef, .undef, .undef] H (by kernel_rfl) ?_
    refine then_norm ?_
    refine w_ret ?_
    refine then_ret ?_
    exact body_ret (vs := [(.int .i64 11)]) _ (by kernel_rfl) rfl h
  · replace h := h.2 (is_eq.f hc)
    refine w_skip ?_
    refine then_norm ?_
    refine w_seq ?_
    refine w_seq ?_
    refine w_run [0, 1, 1, 1, 0, 1, 1, 1, 0, 1, 1, 1, 0, 1, 1, 1, 1, 0, 0, 0, 1, 0, 1] ?_
    refine t_ptr false pb0 po1 H (by kernel_rfl) ?_
    refine t_op false (.fieldAddr 0 (.loc 0)) [.ptr pb0 po1] H (.ptr pb0 po1) H (by kernel_rfl) rfl ?_
    obtain ⟨e7, e8, hl, h⟩ := h
    refine t_load false (some 2) pb0 po1 (.agg [(.int .i64 e7), (.int .i64 e8)]) H (by kernel_rfl) hl ?_
    refine t_ptr false b4 o5 H (by kernel_rfl) ?_
    refine t_op false (.fieldAddr 2 (.loc 0)) [.ptr b4 o5] H (.ptr b4 (o5 + 2)) H (by kernel_rfl) rfl ?_
    obtain ⟨e9, e10, hl, h⟩ := h
    refine t_load false (some 2) b4 (o5 + 2) (.agg [(.int .i64 e9), (.int .i64 e10)]) H (by kernel_rfl) hl ?_
    refine t_ptr false pb0 po1 H (by kernel_rfl) ?_
    refine t_op false (.fieldAddr 2 (.loc 0)) [.ptr pb0 po1] H (.ptr pb0 (po1 + 2)) H (by kernel_rfl) rfl ?_
    obtain ⟨e11, hl, h⟩ := h
    refine t_load false none pb0 (po1 + 2) (.int .i64 e11) H (by kernel_rfl) hl ?_
    refine t_ptr false pb0 po1 H (by kernel_rfl) ?_
    refine t_op false (.fieldAddr 3 (.loc 0)) [.ptr pb0 po1] H (.ptr pb0 (po1 + 3)) H (by kernel_rfl) rfl ?_
    obtain ⟨e12, hl, h⟩ := h
    refine t_load false none pb0 (po1 + 3) (.int .i64 e12) H (by kernel_rfl) hl ?_
    refine t_call false ncanary_Decide [(.agg [(.int .i64 e7), (.int .i64 e8)]), (.agg [(.int .i64 e9), (.int .i64 e10)]), (.int .i64 e11), (.int .i64 e12)] H (by kernel_rfl) h ?_
    clear h
    rintro _ H16 ⟨r13, r14, r15, rfl, h⟩
    obtain ⟨b18, H19, hb⟩ : ∃ b H', NewB H16 1 [(.int .i64 0), (.int .i64 0)] b H' := ⟨_, _, rfl, rfl⟩
    replace h := h b18 H19 hb
    refine t_alloc false 1 [(.int .i64 0), (.int .i64 0)] b18 H19 H16 (by kernel_rfl) hb ?_
    obtain ⟨H20, hp, h⟩ := h
    refine t_store true 2 b18 0 (.agg [(.int .i64 r14), (.int .i64 r15)]) H20 H19 (by kernel_rfl) hp ?_
    refine t_done [(.ptr pb0 po1), (.int .i64 i2), (.int .i64 0), (.ptr b4 o5), (.bool ((e6) == 0)), (.int .i64 r13), .undef, .undef, .undef, .undef] H20 (by kernel_rfl) ?_
    refine then_norm ?_
    refine w_seq ?_
    refine w_run [0, 0] ?_
    refine t_done [(.ptr pb0 po1), (.int .i64 i2), (.int .i64 0), (.ptr b4 o5), (.bool ((e6) == 0)), (.int .i64 r13), (.bool ((r13) != 2)), .undef, .undef, .undef] H20 (by kernel_rfl) ?_
    refine then_norm ?_
    refine w_cond (t := ((r13) != 2)) rfl (fun hc => ?_) (fun hc => ?_)
    · replace h := h.1 (is_ne.t hc)
      refine w_seq ?_
      refine w_run [0] ?_
      refine t_done [(.ptr pb0 po1), (.int .i64 i2), (.int .i64 11), (.ptr b4 o5), (.bool ((e6) == 0)), (.int .i64 r13), (.bool ((r13) != 2)), .undef, .undef, .undef] H20 (by kernel_rfl) ?_
      refine then_norm ?_
      refine w_ret ?_
      refine then_ret ?_
      exact body_ret (vs := [(.int .i64 11)]) _ (by kernel_rfl) rfl h
    · replace h := h.2 (is_ne.f hc)
      refine w_skip ?_
      refine then_norm ?_
      refine w_seq ?_
      refine w_seq ?_
      refine w_run [0, 0, 0, 1, 1, 1, 1, 0] ?_
      refine t_ptr true pb0 po1 H20 (by kernel_rfl) ?_
      refine t_op true (.fieldAddr 4 (.loc 0)) [.ptr pb0 po1] H20 (.ptr pb0 (po1 + 4)) H20 (by kernel_rfl) rfl ?_
      obtain ⟨e21, hl, h⟩ := h
      refine t_load true none pb0 (po1 + 4) e21 H20 (by kernel_rfl) hl ?_
      obtain ⟨len22, hl, h⟩ := h
      refine t_len true e21 len22 H20 (by kernel_rfl) hl ?_
      refine t_done [(.ptr pb0 po1), (.int .i64 i2), (.int .i64 0), (.ptr b4 o5), (.bool ((e6) == 0)), (.int .i64 r13), (.bool ((r13) != 2)), (.bool (decide ((IntKind.wrap .i64 (i2 + 1)) < (len22 : Int)))), .undef, .undef] H20 (by kernel_rfl) ?_
      refine then_norm ?_
      refine w_cond (t := (decide ((IntKind.wrap .i64 (i2 + 1)) < (len22 : Int)))) rfl (fun hc => ?_) (fun hc => ?_)
      · replace h := h.1 (is_dec.t hc)
        refine w_seq ?_
        refine w_run [0, 1, 1, 1, 0, 0, 1, 0] ?_
        refine t_ptr true pb0 po1 H20 (by kernel_rfl) ?_
        refine t_op true (.fieldAddr 4 (.loc 0)) [.ptr pb0 po1] H20 (.ptr pb0 (po1 + 4)) H20 (by kernel_rfl) rfl ?_
        obtain ⟨e23, hl, h⟩ := h
        refine t_load true none pb0 (po1 + 4) e23 H20 (by kernel_rfl) hl ?_
        obtain ⟨b24, o25, hp, h⟩ := h
        refine t_idx true 4 e23 .i64 (IntKind.wrap .i64 (i2 + 1)) b24 o25 H20 (by kernel_rfl) hp ?_
        refine t_done [(.ptr pb0 po1), (.int .i64 i2), (.int .i64 0), (.ptr b4 o5), (.bool ((e6) == 0)), (.int .i64 r13), (.bool ((r13) != 2)), (.bool (decide ((IntKind.wrap .i64 (i2 + 1)) < (len22 : Int)))), (.ptr b24 o25), .undef] H20 (by kernel_rfl) ?_
        refine then_norm ?_
        refine w_seq ?_
        refine w_seq ?_
        refine w_run [0, 1, 1, 1, 0] ?_
        refine t_ptr true b24 o25 H20 (by kernel_rfl) ?_
        refine t_op true (.fieldAddr 1 (.loc 0)) [.ptr b24 o25] H20 (.ptr b24 (o25 + 1)) H20 (by kernel_rfl) rfl ?_
        obtain ⟨e26, hl, h⟩ := h
        refine t_load true none b24 (o25 + 1) (.int .i64 e26) H20 (by kernel_rfl) hl ?_
        refine t_done [(.ptr pb0 po1), (.int .i64 i2), (.int .i64 0), (.ptr b4 o5), (.bool ((e6) == 0)), (.int .i64 r13), (.bool ((r13) != 2)), (.bool (decide ((IntKind.wrap .i64 (i2 + 1)) < (len22 : Int)))), (.ptr b24 o25), (.bool ((e26) != 0))] H20 (by kernel_rfl) ?_
        refine then_norm ?_
        refine w_cond (t := ((e26) != 0)) rfl (fun hc => ?_) (fun hc => ?_)
        · replace h := h.1 (is_ne.t hc)
          refine w_seq ?_
          refine w_run [0] ?_
          refine t_done [(.ptr pb0 po1), (.int .i64 i2), (.int .i64 15), (.ptr b4 o5), (.bool ((e6) == 0)), (.int .i64 r13), (.bool ((r13) != 2)), (.bool (decide ((IntKind.wrap .i64 (i2 + 1)) < (len22 : Int)))), (.ptr b24 o25), (.bool ((e26) != 0))] H20 (by kernel_rfl) ?_
          refine then_norm ?_
          refine w_ret ?_
          refine then_ret ?_
          refine then_ret ?_
          exact body_ret (vs := [(.int .i64 15)]) _ (by kernel_rfl) rfl h
        · replace h := h.2 (is_ne.f hc)
          refine w_skip ?_
          refine then_norm ?_
          refine w_run [0, 0, 1, 1, 1, 1, 1, 1] ?_
          refine t_ptr true b4 o5 H20 (by kernel_rfl) ?_
          refine t_op true (.fieldAddr 1 (.loc 0)) [.ptr b4 o5] H20 (.ptr b4 (o5 + 1)) H20 (by kernel_rfl) rfl ?_
          obtain ⟨e27, hl, h⟩ := h
          refine t_load true none b4 (o5 + 1) (.int .i64 e27) H20 (by kernel_rfl) hl ?_
          refine t_ptr true b24 o25 H20 (by kernel_rfl) ?_
          refine t_op true (.fieldAddr 1 (.loc 0)) [.ptr b24 o25] H20 (.ptr b24 (o25 + 1)) H20 (by kernel_rfl) rfl ?_
          obtain ⟨H28, hp, h⟩ := h
          refine t_store true 1 b24 (o25 + 1) (.int .i64 e27) H28 H20 (by kernel_rfl) hp ?_
          refine t_done [(.ptr pb0 po1), (.int .i64 i2), (.int .i64 0), (.ptr b4 o5), (.bool ((e6) == 0)), (.int .i64 r13), (.bool ((r13) != 2)), (.bool (decide ((IntKind.wrap .i64 (i2 + 1)) < (len22 : Int)))), (.ptr b24 o25), (.bool ((e26) != 0))] H28 (by kernel_rfl) ?_
          refine then_norm ?_
          refine w_seq ?_
          refine w_run [0, 0, 1, 1, 1, 0, 1, 1, 1, 1, 1, 1, 1, 1] ?_
          refine t_ptr false b4 o5 H28 (by kernel_rfl) ?_
          refine t_op false (.fieldAddr 0 (.loc 0)) [.ptr b4 o5] H28 (.ptr b4 o5) H28 (by kernel_rfl) rfl ?_
          obtain ⟨e29, hl, h⟩ := h
          refine t_load false none b4 o5 e29 H28 (by kernel_rfl) hl ?_
          refine t_ptr false b4 o5 H28 (by kernel_rfl) ?_
          refine t_op false (.fieldAddr 1 (.loc 0)) [.ptr b4 o5] H28 (.ptr b4 (o5 + 1)) H28 (by kernel_rfl) rfl ?_
          obtain ⟨e30, hl, h⟩ := h
          refine t_load false none b4 (o5 + 1) (.int .i64 e30) H28 (by kernel_rfl) hl ?_
          obtain ⟨b31, H32, hb⟩ : ∃ b H', NewB H28 1 [(.int .i64 e30)] b H' := ⟨_, _, rfl, rfl⟩
          replace h := h b31 H32 hb
          refine t_bs false 1 [(.int .i64 0)] [(0, 1, .loc 0)] 1 [(.int .i64 e30)] [(.int .i64 e30)] b31 H32 H28 (by kernel_rfl) (fill_c (vs := [(.int .i64 e30)]) (size := 1) rfl (by kernel_rfl) (by kernel_rfl) (by kernel_rfl)) hb ?_
          obtain ⟨a33, H34, ha, h⟩ := h
          refine t_app true 1 8 e29 (.slice b31 0 1 (some 1)) a33 H34 H32 (by kernel_rfl) ha ?_
          refine t_ptr true b4 o5 H34 (by kernel_rfl) ?_
          refine t_op true (.fieldAddr 0 (.loc 0)) [.ptr b4 o5] H34 (.ptr b4 o5) H34 (by kernel_rfl) rfl ?_
          obtain ⟨H35, hp, h⟩ := h
          refine t_store true 1 b4 o5 a33 H35 H34 (by kernel_rfl) hp ?_
          refine t_done [(.ptr pb0 po1), (.int .i64 i2), (.int .i64 0), (.ptr b4 o5), (.bool ((e6) == 0)), (.int .i64 r13), (.bool ((r13) != 2)), (.bool (decide ((IntKind.wrap .i64 (i2 + 1)) < (len22 : Int)))), (.ptr b24 o25), (.bool ((e26) != 0))] H35 (by kernel_rfl) ?_
          refine then_norm ?_
          refine w_seq ?_
          refine w_run [0, 0, 1, 1, 1, 1, 1, 1, 1] ?_
          refine t_build true [(.int .i64 0), (.int .i64 0)] [] [] [(.int .i64 0), (.int .i64 0)] H35 (by kernel_rfl) (by kernel_rfl) ?_
          refine t_ptr true b4 o5 H35 (by kernel_rfl) ?_
          refine t_op true (.fieldAddr 1 (.loc 0)) [.ptr b4 o5] H35 (.ptr b4 (o5 + 1)) H35 (by kernel_rfl) rfl ?_
          obtain ⟨H36, hp, h⟩ := h
          refine t_store true 1 b4 (o5 + 1) (.int .i64 0) H36 H35 (by kernel_rfl) hp ?_
          refine t_ptr true b4 o5 H36 (by kernel_rfl) ?_
          refine t_op true (.fieldAddr 2 (.loc 0)) [.ptr b4 o5] H36 (.ptr b4 (o5 + 2)) H36 (by kernel_rfl) rfl ?_
          obtain ⟨H37, hp, h⟩ := h
          refine t_store true 2 b4 (o5 + 2) (.agg [(.int .i64 0), (.int .i64 0)]) H37 H36 (by kernel_rfl) hp ?_
          refine t_done [(.ptr pb0 po1), (.int .i64 i2), (.int .i64 0), (.ptr b4 o5), (.bool ((e6) == 0)), (.int .i64 r13), (.bool ((r13) != 2)), (.bool (decide ((IntKind.wrap .i64 (i2 + 1)) < (len22 : Int)))), (.ptr b24 o25), (.bool ((e26) != 0))] H37 (by kernel_rfl) ?_
          refine then_norm ?_
          refine w_seq ?_
          refine w_run [0] ?_
          refine t_done [(.ptr pb0 po1), (.int .i64 i2), (.int .i64 0), (.ptr b4 o5), (.bool ((e6) == 0)), (.int .i64 r13), (.bool ((r13) != 2)), (.bool (decide ((IntKind.wrap .i64 (i2 + 1)) < (len22 : Int)))), (.ptr b24 o25), (.bool ((e26) != 0))] H37 (by kernel_rfl) ?_
          refine then_norm ?_
          refine w_ret ?_
          exact body_ret (vs := [(.int .i64 0)]) _ (by kernel_rfl) rfl h
      · replace h := h.2 (is_dec.f hc)
        refine w_skip ?_
        refine then_norm ?_
        refine w_seq ?_
        refine w_run [0, 0, 1, 1, 1, 0, 1, 1, 1, 1, 1, 1, 1, 1] ?_
        refine t_ptr false b4 o5 H20 (by kernel_rfl) ?_
        refine t_op false (.fieldAddr 0 (.loc 0)) [.ptr b4 o5] H20 (.ptr b4 o5) H20 (by kernel_rfl) rfl ?_
        obtain ⟨e38, hl, h⟩ := h
        refine t_load false none b4 o5 e38 H20 (by kernel_rfl) hl ?_
        refine t_ptr false b4 o5 H20 (by kernel_rfl) ?_
        refine t_op false (.fieldAddr 1 (.loc 0)) [.ptr b4 o5] H20 (.ptr b4 (o5 + 1)) H20 (by kernel_rfl) rfl ?_
        obtain ⟨e39, hl, h⟩ := h
        refine t_load false none b4 (o5 + 1) (.int .i64 e39) H20 (by kernel_rfl) hl ?_
        obtain ⟨b40, H41, hb⟩ : ∃ b H', NewB H20 1 [(.int .i64 e39)] b H' := ⟨_, _, rfl, rfl⟩
        replace h := h b40 H41 hb
        refine t_bs false 1 [(.int .i64 0)] [(0, 1, .loc 0)] 1 [(.int .i64 e39)] [(.int .i64 e39)] b40 H41 H20 (by kernel_rfl) (fill_c (vs := [(.int .i64 e39)]) (size := 1) rfl (by kernel_rfl) (by kernel_rfl) (by kernel_rfl)) hb ?_
        obtain ⟨a42, H43, ha, h⟩ := h
        refine t_app true 1 8 e38 (.slice b40 0 1 (some 1)) a42 H43 H41 (by kernel_rfl) ha ?_
        refine t_ptr true b4 o5 H43 (by kernel_rfl) ?_
        refine t_op true (.fieldAddr 0 (.loc 0)) [.ptr b4 o5] H43 (.ptr b4 o5) H43 (by kernel_rfl) rfl ?_
        obtain ⟨H44, hp, h⟩ := h
        refine t_store true 1 b4 o5 a42 H44 H43 (by kernel_rfl) hp ?_
        refine t_done [(.ptr pb0 po1), (.int .i64 i2), (.int .i64 0), (.ptr b4 o5), (.bool ((e6) == 0)), (.int .i64 r13), (.bool ((r13) != 2)), (.bool (decide ((IntKind.wrap .i64 (i2 + 1)) < (len22 : Int)))), .undef, .undef] H44 (by kernel_rfl) ?_
        refine then_norm ?_
        refine w_seq ?_
        refine w_run [0, 0, 1, 1, 1, 1, 1, 1, 1] ?_
        refine t_build true [(.int .i64 0), (.int .i64 0)] [] [] [(.int .i64 0), (.int .i64 0)] H44 (by kernel_rfl) (by kernel_rfl) ?_
        refine t_ptr true b4 o5 H44 (by kernel_rfl) ?_
        refine t_op true (.fieldAddr 1 (.loc 0)) [.ptr b4 o5] H44 (.ptr b4 (o5 + 1)) H44 (by kernel_rfl) rfl ?_
        obtain ⟨H45, hp, h⟩ := h
        refine t_store true 1 b4 (o5 + 1) (.int .i64 0) H45 H44 (by kernel_rfl) hp ?_
        refine t_ptr true b4 o5 H45 (by kernel_rfl) ?_
        refine t_op true (.fieldAddr 2 (.loc 0)) [.ptr b4 o5] H45 (.ptr b4 (o5 + 2)) H45 (by kernel_rfl) rfl ?_
        obtain ⟨H46, hp, h⟩ := h
        refine t_store true 2 b4 (o5 + 2) (.agg [(.int .i64 0), (.int .i64 0)]) H46 H45 (by kernel_rfl) hp ?_
        refine t_done [(.ptr pb0 po1), (.int .i64 i2), (.int .i64 0), (.ptr b4 o5), (.bool ((e6) == 0)), (.int .i64 r13), (.bool ((r13) != 2)), (.bool (decide ((IntKind.wrap .i64 (i2 + 1)) < (len22 : Int)))), .undef, .undef] H46 (by kernel_rfl) ?_
        refine then_norm ?_
        refine w_seq ?_
        refine w_run [0] ?_
        refine t_done [(.ptr pb0 po1), (.int .i64 i2), (.int .i64 0), (.ptr b4 o5), (.bool ((e6) == 0)), (.int .i64 r13), (.bool ((r13) != 2)), (.bool (decide ((IntKind.wrap .i64 (i2 + 1)) < (len22 : Int)))), .undef, .undef] H46 (by kernel_rfl) ?_
        refine then_norm ?_
        refine w_ret ?_
        exact body_ret (vs := [(.int .i64 0)]) _ (by kernel_rfl) rfl h

def rf_rollout_plan_abort (nslices_Index__int_int nslices_Delete__int_int : Nat) : RFunc := ⟨2, 12, [.var 2],
 ((.seq (.ops [⟨.move (.k (.bool false)), none, (some 2), true⟩])
 ((.seq (.ops [⟨.move (.k (.bool false)), none, (some 11), true⟩])
 ((.seq ((.seq (.ops [⟨.move (.var 0), none, none, true⟩, ⟨.nilCheck (.loc 0), none, none, true⟩, ⟨.fieldAddr 4 (.loc 1), none, none, true⟩, ⟨.load none (.loc 2), none, none, true⟩, ⟨.len (.loc 3), none, (some 4), true⟩, ⟨.move (.k (.int .i64 0)), none, (some 3), true⟩])
 (.block 0 (.loop ((.seq (.ops [⟨.bin .lss .no (.var 3) (.var 4), none, (some 5), true⟩])
 ((.seq (.cond (.var 5) (.skip) (.exit 0))
 ((.seq (.block 1 ((.seq (.ops [⟨.move (.var 3), none, none, true⟩, ⟨.move (.loc 0), none, (some 6), true⟩])
 ((.seq (.ops [⟨.move (.var 0), none, none, true⟩, ⟨.nilCheck (.loc 0), none, none, true⟩, ⟨.fieldAddr 4 (.loc 1), none, none, true⟩, ⟨.load none (.loc 2), none, none, true⟩, ⟨.move (.var 6), none, none, true⟩, ⟨.indexAddr 4 (.loc 3) (.loc 4), none, none, true⟩, ⟨.move (.loc 5), none, (some 7), true⟩])
 ((.seq ((.seq (.ops [⟨.move (.var 1), none, none, true⟩, ⟨.bin .neq .no (.loc 0) (.k (.int .i64 0)), none, none, true⟩, ⟨.move (.loc 1), none, none, true⟩, ⟨.move (.var 7), none, none, true⟩, ⟨.nilCheck (.loc 3), (some (2, true)), none, true⟩, ⟨.fieldAddr 1 (.loc 4), (some (2, true)), none, true⟩, ⟨.load none (.loc 5), (some (2, true)), none, true⟩, ⟨.move (.var 1), none, none, true⟩, ⟨.bin .eql .no (.loc 6) (.loc 7), (some (2, true)), none, true⟩, ⟨.pick (.loc 2) (.loc 8) (.k (.bool false)), none, (some 8), true⟩])
 (.cond (.var 8) (.ops [⟨.move (.var 7), none, none, true⟩, ⟨.move (.var 7), none, none, true⟩, ⟨.build [.int .i64 0, .int .i64 0] [], none, none, true⟩, ⟨.nilCheck (.loc 0), none, none, true⟩, ⟨.fieldAddr 1 (.loc 3), none, none, true⟩, ⟨.store 1 (.loc 4) (.k (.int .i64 0)) [], none, none, true⟩, ⟨.nilCheck (.loc 1), none, none, true⟩, ⟨.fieldAddr 2 (.loc 6), none, none, true⟩, ⟨.store 2 (.loc 7) (.loc 2) [], none, none, true⟩, ⟨.move (.k (.bool true)), none, (some 11), true⟩]) (.skip))))
 ((.seq (.ops [⟨.move (.var 7), none, none, true⟩, ⟨.nilCheck (.loc 0), none, none, true⟩, ⟨.fieldAddr 0 (.loc 1), none, none, true⟩, ⟨.load none (.loc 2), none, none, true⟩, ⟨.move (.var 1), none, none, true⟩, ⟨.callS nslices_Index__int_int [(.loc 3), (.loc 4)], none, none, true⟩, ⟨.move (.loc 5), none, (some 9), true⟩])
 ((.seq (.ops [⟨.move (.var 9), none, none, true⟩, ⟨.bin .geq .no (.loc 0) (.k (.int .i64 0)), none, (some 10), true⟩])
 (.cond (.var 10) (.ops [⟨.move (.var 7), none, none, true⟩, ⟨.move (.var 7), none, none, true⟩, ⟨.nilCheck (.loc 1), none, none, true⟩, ⟨.fieldAddr 0 (.loc 2), none, none, true⟩, ⟨.load none (.loc 3), none, none, true⟩, ⟨.move (.var 9), none, none, true⟩, ⟨.move (.var 9), none, none, true⟩, ⟨.bin .add .no (.loc 6) (.k (.int .i64 1)), none, none, true⟩, ⟨.callS nslices_Delete__int_int [(.loc 4), (.loc 5), (.loc 7)], none, none, true⟩, ⟨.nilCheck (.loc 0), none, none, true⟩, ⟨.fieldAddr 0 (.loc 9), none, none, true⟩, ⟨.store 1 (.loc 10) (.loc 8) [], none, none, true⟩, ⟨.move (.k (.bool true)), none, (some 11), true⟩]) (.skip)))))))))))))
 (.ops [⟨.bin .add .no (.var 3) (.k (.int .i64 1)), none, none, true⟩, ⟨.move (.loc 0), none, (some 3), true⟩])))))))))))
 ((.seq (.ops [⟨.move (.var 11), none, none, true⟩, ⟨.move (.loc 0), none, (some 2), true⟩])
 (.ret)))))))))⟩
theorem v_rollout_plan_abort {F : Nat → Option RFunc} {me nslices_Index__int_int nslices_Delete__int_int : Nat} (hF : F me = some (rf_rollout_plan_abort nslices_Index__int_int nslices_Delete__int_int)) {fl : Nat} {H : Heap} {Q : AV → Heap → Prop} (pb0 : Nat) (po1 : Nat) (version2 : Int)
  (h : ∃ (e3 : AV), rload H none pb0 (po1 + 4) = some e3 ∧ ∃ len4 : Nat, lenA e3 = some len4 ∧ ∃ (J5 : Nat → Int → Bool → Heap → Prop) (k6 : Nat), J5 k6 0 false H ∧ (∀ (m7 : Nat) (v8 : Int) (found15 : Bool) (H16 : Heap), J5 m7 v8 found15 H16 → ((v8 < (len4 : Int)) → ∃ (e17 : AV), rload H16 none pb0 (po1 + 4) = some e17 ∧ ∃ b18 o19 : Nat, ptrA 4 e17 v8 = some (b18, o19) ∧ ((version2 ≠ 0) → ∃ (e20 : Int), rload H16 none b18 (o19 + 1) = some (.int .i64 e20) ∧ ((e20 = version2) → ∃ H21 : Heap, putA fl H16 b18 (o19 + 1) 1 (.int .i64 0) = some H21 ∧ ∃ H22 : Heap, putA fl H21 b18 (o19 + 2) 2 (.agg [(.int .i64 0), (.int .i64 0)]) = some H22 ∧ ∃ (e23 : AV), rload H22 none b18 o19 = some e23 ∧ Ret F fl nslices_Index__int_int [e23, (.int .i64 version2)] H22 (fun v26 H25 => ∃ (r24 : Int), v26 = (.int .i64 r24) ∧ ((r24 ≥ 0) → ∃ (e27 : AV), rload H25 none b18 o19 = some e27 ∧ Ret F fl nslices_Delete__int_int [e27, (.int .i64 r24), (.int .i64 (IntKind.wrap .i64 (r24 + 1)))] H25 (fun r28 H29 => ∃ H31 : Heap, putA fl H29 b18 o19 1 r28 = some H31 ∧ ∃ m32 : Nat, m32 < m7 ∧ J5 m32 (IntKind.wrap .i64 (v8 + 1)) true H31)) ∧ (¬(r24 ≥ 0) → ∃ m33 : Nat, m33 < m7 ∧ J5 m33 (IntKind.wrap .i64 (v8 + 1)) true H25))) ∧ (¬(e20 = version2) → ∃ (e34 : AV), rload H16 none b18 o19 = some e34 ∧ Ret F fl nslices_Index__int_int [e34, (.int .i64 version2)] H16 (fun v37 H36 => ∃ (r35 : Int), v37 = (.int .i64 r35) ∧ ((r35 ≥ 0) → ∃ (e38 : AV), rload H36 none b18 o19 = some e38 ∧ Ret F fl nslices_Delete__int_int [e38, (.int .i64 r35), (.int .i64 (IntKind.wrap .i64 (r35 + 1)))] H36 (fun r39 H40 => ∃ H42 : Heap, putA fl H40 b18 o19 1 r39 = some H42 ∧ ∃ m43 : Nat, m43 < m7 ∧ J5 m43 (IntKind.wrap .i64 (v8 + 1)) true H42)) ∧ (¬(r35 ≥ 0) → ∃ m44 : Nat, m44 < m7 ∧ J5 m44 (IntKind.wrap .i64 (v8 + 1)) found15 H36)))) ∧ (¬(version2 ≠ 0) → ∃ (e45 : AV), rload H16 none b18 o19 = some e45 ∧ Ret F fl nslices_Index__int_int [e45, (.int .i64 version2)] H16 (fun v48 H47 => ∃ (r46 : Int), v48 = (.int .i64 r46) ∧ ((r46 ≥ 0) → ∃ (e49 : AV), rload H47 none b18 o19 = some e49 ∧ Ret F fl nslices_Delete__int_int [e49, (.int .i64 r46), (.int .i64 (IntKind.wrap .i64 (r46 + 1)))] H47 (fun r50 H51 => ∃ H53 : Heap, putA fl H51 b18 o19 1 r50 = some H53 ∧ ∃ m54 : Nat, m54 < m7 ∧ J5 m54 (IntKind.wrap .i64 (v8 + 1)) true H53)) ∧ (¬(r46 ≥ 0) → ∃ m55 : Nat, m55 < m7 ∧ J5 m55 (IntKind.wrap .i64 (v8 + 1)) found15 H47)))) ∧ (¬(v8 < (len4 : Int)) → Q (.bool found15) H16))) : Ret F fl me [(.ptr pb0 po1), (.int .i64 version2)] H Q := by
  refine ret_intro hF rfl ?_
  refine w_seq ?_
  refine w_run [0] ?_
  refine t_done [(.ptr pb0 po1), (.int .i64 version2), (.bool false), .undef, .undef, .undef, .undef, .undef, .undef, .undef, .undef, .undef] H (by kernel_rfl) ?_
  refine then_norm ?_
  refine w_seq ?_
  refine w_run [0] ?_
  refine t_done [(.ptr pb0 po1), (.int .i64 version2), (.bool false), .undef, .undef, .undef, .undef, .undef, .undef, .undef, .undef, (.bool false)] H (by kernel_rfl) ?_
  refine then_norm ?_
  refine w_seq ?_
  refine w_seq ?_
  refine w_run [0, 1, 1, 1, 1, 0] ?_
  refine t_ptr true pb0 po1 H (by kernel_rfl) ?_
  refine t_op true (.fieldAddr 4 (.loc 0)) [.ptr pb0 po1] H (.ptr pb0 (po1 + 4)) H (by kernel_rfl) rfl ?_
  obtain ⟨e3, hl, h⟩ := h
  refine t_load true none pb0 (po1 + 4) e3 H (by kernel_rfl) hl ?_
  obtain ⟨len4, hl, h⟩ := h
  refine t_len true e3 len4 H (by kernel_rfl) hl ?_
  refine t_done [(.ptr pb0 po1), (.int .i64 version2), (.bool false), (.int .i64 0), (.int .i64 (len4 : Int)), .undef, .undef, .undef, .undef, .undef, .undef, (.bool false)] H (by kernel_rfl) ?_
  refine then_norm ?_
  refine w_block ?_
  obtain ⟨J5, k6, h0, h⟩ := h
  refine w_loop (I := fun mI EI HI => ∃ (v8 : Int) (d9 : AV) (d10 : AV) (d11 : AV) (d12 : AV) (d13 : AV) (d14 : AV) (found15 : Bool), EI = [(.ptr pb0 po1), (.int .i64 version2), (.bool false), (.int .i64 v8), (.int .i64 (len4 : Int)), d9, d10, d11, d12, d13, d14, (.bool found15)] ∧ J5 mI v8 found15 HI) ?_ k6 ⟨_, _, _, _, _, _, _, _, rfl, h0⟩
  clear h0
  rintro m7 EI H16 ⟨v8, d9, d10, d11, d12, d13, d14, found15, rfl, hJ⟩
  replace h := h m7 v8 found15 H16 hJ
  clear hJ
  refine w_seq ?_
  refine w_run [0] ?_
  refine t_done [(.ptr pb0 po1), (.int .i64 version2), (.bool false), (.int .i64 v8), (.int .i64 (len4 : Int)), (.bool (decide (v8 < (len4 : Int)))), d10, d11, d12, d13, d14, (.bool found15)] H16 (by kernel_rfl) ?_
  refine then_norm ?_
  refine w_seq ?_
  refine w_cond (t := (decide (v8 < (len4 : Int)))) rfl (fun hc => ?_) (fun hc => ?_)
  · replace h := h.1 (is_dec.t hc)
    refine w_skip ?_
    refine then_norm ?_
    refine w_seq ?_
    refine w_block ?_
    refine w_seq ?_
    refine w_run [0, 0] ?_
    refine t_done [(.ptr pb0 po1), (.int .i64 version2), (.bool false), (.int .i64 v8), (.int .i64 (len4 : Int)), (.bool (decide (v8 < (len4 : Int)))), (.int .i64 v8), d11, d12, d13, d14, (.bool found15)] H16 (by kernel_rfl) ?_
    refine then_norm ?_
    refine w_seq ?_
    refine w_run [0, 1, 1, 1, 0, 1, 0] ?_
    refine t_ptr true pb0 po1 H16 (by kernel_rfl) ?_
    refine t_op true (.fieldAddr 4 (.loc 0)) [.ptr pb0 po1] H16 (.ptr pb0 (po1 + 4)) H16 (by kernel_rfl) rfl ?_
    obtain ⟨e17, hl, h⟩ := h
    refine t_load true none pb0 (po1 + 4) e17 H16 (by kernel_rfl) hl ?_
    obtain ⟨b18, o19, hp, h⟩ := h
    refine t_idx true 4 e17 .i64 v8 b18 o19 H16 (by kernel_rfl) hp ?_
    refine t_done [(.ptr pb0 po1), (.int .i64 version2), (.bool false), (.int .i64 v8), (.int .i64 (len4 : Int)), (.bool (decide (v8 < (len4 : Int)))), (.int .i64 v8), (.ptr b18 o19), d12, d13, d14, (.bool found15)] H16 (by kernel_rfl) ?_
    refine then_norm ?_
    refine w_seq ?_
    refine w_seq ?_
    refine w_run [0, 0, 0, 0, 3, 3, 3, 0, 2, 0] ?_
    refine t_gd ((version2) != 0) true (by kernel_rfl) (fun hc => ?_) (fun hc => ?_)
    · replace h := h.1 (is_ne.t hc)
      refine t_ptr true b18 o19 H16 (by kernel_rfl) ?_
      refine t_gd true true (by kernel_rfl) (fun _ => ?_) (fun hn => by cases hn)
      refine t_op true (.fieldAddr 1 (.loc 0)) [.ptr b18 o19] H16 (.ptr b18 (o19 + 1)) H16 (by kernel_rfl) rfl ?_
      refine t_gd true true (by kernel_rfl) (fun _ => ?_) (fun hn => by cases hn)
      obtain ⟨e20, hl, h⟩ := h
      refine t_load true none b18 (o19 + 1) (.int .i64 e20) H16 (by kernel_rfl) hl ?_
      refine t_gd true true (by kernel_rfl) (fun _ => ?_) (fun hn => by cases hn)
      refine t_done [(.ptr pb0 po1), (.int .i64 version2), (.bool false), (.int .i64 v8), (.int .i64 (len4 : Int)), (.bool (decide (v8 < (len4 : Int)))), (.int .i64 v8), (.ptr b18 o19), (.bool ((e20) == version2)), d13, d14, (.bool found15)] H16 (by kernel_rfl) ?_
      refine then_norm ?_
      refine w_cond (t := ((e20) == version2)) rfl (fun hc => ?_) (fun hc => ?_)
      · replace h := h.1 (is_eq.t hc)
        refine w_run [0, 0, 1, 1, 1, 1, 1, 1, 1, 0] ?_
        refine t_build true [(.int .i64 0), (.int .i64 0)] [] [] [(.int .i64 0), (.int .i64 0)] H16 (by kernel_rfl) (by kernel_rfl) ?_
        refine t_ptr true b18 o19 H16 (by kernel_rfl) ?_
        refine t_op true (.fieldAddr 1 (.loc 0)) [.ptr b18 o19] H16 (.ptr b18 (o19 + 1)) H16 (by kernel_rfl) rfl ?_
        obtain ⟨H21, hp, h⟩ := h
        refine t_store true 1 b18 (o19 + 1) (.int .i64 0) H21 H16 (by kernel_rfl) hp ?_
        refine t_ptr true b18 o19 H21 (by kernel_rfl) ?_
        refine t_op true (.fieldAddr 2 (.loc 0)) [.ptr b18 o19] H21 (.ptr b18 (o19 + 2)) H21 (by kernel_rfl) rfl ?_
        obtain ⟨H22, hp, h⟩ := h
        refine t_store true 2 b18 (o19 + 2) (.agg [(.int .i64 0), (.int .i64 0)]) H22 H21 (by kernel_rfl) hp ?_
        refine t_done [(.ptr pb0 po1), (.int .i64 version2), (.bool false), (.int .i64 v8), (.int .i64 (len4 : Int)), (.bool (decide (v8 < (len4 : Int)))), (.int .i64 v8), (.ptr b18 o19), (.bool ((e20) == version2)), d13, d14, (.bool true)] H22 (by kernel_rfl) ?_
        refine then_norm ?_
        refine w_seq ?_
        refine w_run [0, 1, 1, 1, 0, 1, 0] ?_
        refine t_ptr true b18 o19 H22 (by kernel_rfl) ?_
        refine t_op true (.fieldAddr 0 (.loc 0)) [.ptr b18 o19] H22 (.ptr b18 o19) H22 (by kernel_rfl) rfl ?_
        obtain ⟨e23, hl, h⟩ := h
        refine t_load true none b18 o19 e23 H22 (by kernel_rfl) hl ?_
        refine t_call true nslices_Index__int_int [e23, (.int .i64 version2)] H22 (by kernel_rfl) h ?_
        clear h
        rintro _ H25 ⟨r24, rfl, h⟩
        refine t_done [(.ptr pb0 po1), (.int .i64 version2), (.bool false), (.int .i64 v8), (.int .i64 (len4 : Int)), (.bool (decide (v8 < (len4 : Int)))), (.int .i64 v8), (.ptr b18 o19), (.bool ((e20) == version2)), (.int .i64 r24), d14, (.bool true)] H25 (by kernel_rfl) ?_
        refine then_norm ?_
        refine w_seq ?_
        refine w_run [0, 0] ?_
        refine t_done [(.ptr pb0 po1), (.int .i64 version2), (.bool false), (.int .i64 v8), (.int .i64 (len4 : Int)), (.bool (decide (v8 < (len4 : Int)))), (.int .i64 v8), (.ptr b18 o19), (.bool ((e20) == version2)), (.int .i64 r24), (.bool (decide (r24 ≥ 0))), (.bool true)] H25 (by kernel_rfl) ?_
        refine then_norm ?_
        refine w_cond (t := (decide (r24 ≥ 0))) rfl (fun hc => ?_) (fun hc => ?_)
        · replace h := h.1 (is_dec.t hc)
          refine w_run [0, 0, 1, 1, 1, 0, 0, 0, 1, 1, 1, 1, 0] ?_
          refine t_ptr true b18 o19 H25 (by kernel_rfl) ?_
          refine t_op true (.fieldAddr 0 (.loc 0)) [.ptr b18 o19] H25 (.ptr b18 o19) H25 (by kernel_rfl) rfl ?_
          obtain ⟨e27, hl, h⟩ := h
          refine t_load true none b18 o19 e27 H25 (by kernel_rfl) hl ?_
          refine t_call true nslices_Delete__int_int [e27, (.int .i64 r24), (.int .i64 (IntKind.wrap .i64 (r24 + 1)))] H25 (by kernel_rfl) h ?_
          clear h
          rintro r28 H29 h
          refine t_ptr true b18 o19 H29 (by kernel_rfl) ?_
          refine t_op true (.fieldAddr 0 (.loc 0)) [.ptr b18 o19] H29 (.ptr b18 o19) H29 (by kernel_rfl) rfl ?_
          obtain ⟨H31, hp, h⟩ := h
          refine t_store true 1 b18 o19 r28 H31 H29 (by kernel_rfl) hp ?_
          refine t_done [(.ptr pb0 po1), (.int .i64 version2), (.bool false), (.int .i64 v8), (.int .i64 (len4 : Int)), (.bool (decide (v8 < (len4 : Int)))), (.int .i64 v8), (.ptr b18 o19), (.bool ((e20) == version2)), (.int .i64 r24), (.bool (decide (r24 ≥ 0))), (.bool true)] H31 (by kernel_rfl) ?_
          refine block_norm ?_
          refine then_norm ?_
          refine w_run [0, 0] ?_
          refine t_done [(.ptr pb0 po1), (.int .i64 version2), (.bool false), (.int .i64 (IntKind.wrap .i64 (v8 + 1))), (.int .i64 (len4 : Int)), (.bool (decide (v8 < (len4 : Int)))), (.int .i64 v8), (.ptr b18 o19), (.bool ((e20) == version2)), (.int .i64 r24), (.bool (decide (r24 ≥ 0))), (.bool true)] H31 (by kernel_rfl) ?_
          obtain ⟨m', hm, h⟩ := h
          refine loop_norm ⟨m', hm, _, _, _, _, _, _, _, _, rfl, h⟩
        · replace h := h.2 (is_dec.f hc)
          refine w_skip ?_
          refine block_norm ?_
          refine then_norm ?_
          refine w_run [0, 0] ?_
          refine t_done [(.ptr pb0 po1), (.int .i64 version2), (.bool false), (.int .i64 (IntKind.wrap .i64 (v8 + 1))), (.int .i64 (len4 : Int)), (.bool (decide (v8 < (len4 : Int)))), (.int .i64 v8), (.ptr b18 o19), (.bool ((e20) == version2)), (.int .i64 r24), (.bool (decide (r24 ≥ 0))), (.bool true)] H25 (by kernel_rfl) ?_
          obtain ⟨m', hm, h⟩ := h
          refine loop_norm ⟨m', hm, _, _, _, _, _, _, _, _, rfl, h⟩
      · replace h := h.2 (is_eq.f hc)
        refine w_skip ?_
        refine then_norm ?_
        refine w_seq ?_
        refine w_run [0, 1, 1, 1, 0, 1, 0] ?_
        refine t_ptr true b18 o19 H16 (by kernel_rfl) ?_
        refine t_op true (.fieldAddr 0 (.loc 0)) [.ptr b18 o19] H16 (.ptr b18 o19) H16 (by kernel_rfl) rfl ?_
        obtain ⟨e34, hl, h⟩ := h
        refine t_load true none b18 o19 e34 H16 (by kernel_rfl) hl ?_
        refine t_call true nslices_Index__int_int [e34, (.int .i64 version2)] H16 (by kernel_rfl) h ?_
        clear h
        rintro _ H36 ⟨r35, rfl, h⟩
        refine t_done [(.ptr pb0 po1), (.int .i64 version2), (.bool false), (.int .i64 v8), (.int .i64 (len4 : Int)), (.bool (decide (v8 < (len4 : Int)))), (.int .i64 v8), (.ptr b18 o19), (.bool ((e20) == version2)), (.int .i64 r35), d14, (.bool found15)] H36 (by kernel_rfl) ?_
        refine then_norm ?_
        refine w_seq ?_
        refine w_run [0, 0] ?_
        refine t_done [(.ptr pb0 po1), (.int .i64 version2), (.bool false), (.int .i64 v8), (.int .i64 (len4 : Int)), (.bool (decide (v8 < (len4 : Int)))), (.int .i64 v8), (.ptr b18 o19), (.bool ((e20) == version2)), (.int .i64 r35), (.bool (decide (r35 ≥ 0))), (.bool found15)] H36 (by kernel_rfl) ?_
        refine then_norm ?_
        refine w_cond (t := (decide (r35 ≥ 0))) rfl (fun hc => ?_) (fun hc => ?_)
        · replace h := h.1 (is_dec.t hc)
          refine w_run [0, 0, 1, 1, 1, 0, 0, 0, 1, 1, 1, 1, 0] ?_
          refine t_ptr true b18 o19 H36 (by kernel_rfl) ?_
          refine t_op true (.fieldAddr 0 (.loc 0)) [.ptr b18 o19] H36 (.ptr b18 o19) H36 (by kernel_rfl) rfl ?_
          obtain ⟨e38, hl, h⟩ := h
          refine t_load true none b18 o19 e38 H36 (by kernel_rfl) hl ?_
          refine t_call true nslices_Delete__int_int [e38, (.int .i64 r35), (.int .i64 (IntKind.wrap .i64 (r35 + 1)))] H36 (by kernel_rfl) h ?_
          clear h
          rintro r39 H40 h
          refine t_ptr true b18 o19 H40 (by kernel_rfl) ?_
          refine t_op true (.fieldAddr 0 (.loc 0)) [.ptr b18 o19] H40 (.ptr b18 o19) H40 (by kernel_rfl) rfl ?_
          obtain ⟨H42, hp, h⟩ := h
          refine t_store true 1 b18 o19 r39 H42 H40 (by kernel_rfl) hp ?_
          refine t_done [(.ptr pb0 po1), (.int .i64 version2), (.bool false), (.int .i64 v8), (.int .i64 (len4 : Int)), (.bool (decide (v8 < (len4 : Int)))), (.int .i64 v8), (.ptr b18 o19), (.bool ((e20) == version2)), (.int .i64 r35), (.bool (decide (r35 ≥ 0))), (.bool true)] H42 (by kernel_rfl) ?_
          refine block_norm ?_
          refine then_norm ?_
          refine w_run [0, 0] ?_
          refine t_done [(.ptr pb0 po1), (.int .i64 version2), (.bool false), (.int .i64 (IntKind.wrap .i64 (v8 + 1))), (.int .i64 (len4 : Int)), (.bool (decide (v8 < (len4 : Int)))), (.int .i64 v8), (.ptr b18 o19), (.bool ((e20) == version2)), (.int .i64 r35), (.bool (decide (r35 ≥ 0))), (.bool true)] H42 (by kernel_rfl) ?_
          obtain ⟨m', hm, h⟩ := h
          refine loop_norm ⟨m', hm, _, _, _, _, _, _, _, _, rfl, h⟩
        · replace h := h.2 (is_dec.f hc)
          refine w_skip ?_
          refine block_norm ?_
          refine then_norm ?_
          refine w_run [0, 0] ?_
          refine t_done [(.ptr pb0 po1), (.int .i64 version2), (.bool false), (.int .i64 (IntKind.wrap .i64 (v8 + 1))), (.int .i64 (len4 : Int)), (.bool (decide (v8 < (len4 : Int)))), (.int .i64 v8), (.ptr b18 o19), (.bool ((e20) == version2)), (.int .i64 r35), (.bool (decide (r35 ≥ 0))), (.bool found15)] H36 (by kernel_rfl) ?_
          obtain ⟨m', hm, h⟩ := h
          refine loop_norm ⟨m', hm, _, _, _, _, _, _, _, _, rfl, h⟩
    · replace h := h.2 (is_ne.f hc)
      refine t_gd false true (by kernel_rfl) (fun hn => by cases hn) (fun _ => ?_)
      refine t_gd false true (by kernel_rfl) (fun hn => by cases hn) (fun _ => ?_)
      refine t_gd false true (by kernel_rfl) (fun hn => by cases hn) (fun _ => ?_)
      refine t_done [(.ptr pb0 po1), (.int .i64 version2), (.bool false), (.int .i64 v8), (.int .i64 (len4 : Int)), (.bool (decide (v8 < (len4 : Int)))), (.int .i64 v8), (.ptr b18 o19), (.bool false), d13, d14, (.bool found15)] H16 (by kernel_rfl) ?_
      refine then_norm ?_
      refine w_cond (t := false) rfl (fun hc => by cases hc) (fun _ => ?_)
      refine w_skip ?_
      refine then_norm ?_
      refine w_seq ?_
      refine w_run [0, 1, 1, 1, 0, 1, 0] ?_
      refine t_ptr true b18 o19 H16 (by kernel_rfl) ?_
      refine t_op true (.fieldAddr 0 (.loc 0)) [.ptr b18 o19] H16 (.ptr b18 o19) H16 (by kernel_rfl) rfl ?_
      obtain ⟨e45, hl, h⟩ := h
      refine t_load true none b18 o19 e45 H16 (by kernel_rfl) hl ?_
      refine t_call true nslices_Index__int_int [e45, (.int .i64 version2)] H16 (by kernel_rfl) h ?_
      clear h
      rintro _ H47 ⟨r46, rfl, h⟩
      refine t_done [(.ptr pb0 po1), (.int .i64 version2), (.bool false), (.int .i64 v8), (.int .i64 (len4 : Int)), (.bool (decide (v8 < (len4 : Int)))), (.int .i64 v8), (.ptr b18 o19), (.bool false), (.int .i64 r46), d14, (.bool found15)] H47 (by kernel_rfl) ?_
      refine then_norm ?_
      refine w_seq ?_
      refine w_run [0, 0] ?_
      refine t_done [(.ptr pb0 po1), (.int .i64 version2), (.bool false), (.int .i64 v8), (.int .i64 (len4 : Int)), (.bool (decide (v8 < (len4 : Int)))), (.int .i64 v8), (.ptr b18 o19), (.bool false), (.int .i64 r46), (.bool (decide (r46 ≥ 0))), (.bool found15)] H47 (by kernel_rfl) ?_
      refine then_norm ?_
      refine w_cond (t := (decide (r46 ≥ 0))) rfl (fun hc => ?_) (fun hc => ?_)
      · replace h := h.1 (is_dec.t hc)
        refine w_run [0, 0, 1, 1, 1, 0, 0, 0, 1, 1, 1, 1, 0] ?_
        refine t_ptr true b18 o19 H47 (by kernel_rfl) ?_
        refine t_op true (.fieldAddr 0 (.loc 0)) [.ptr b18 o19] H47 (.ptr b18 o19) H47 (by kernel_rfl) rfl ?_
        obtain ⟨e49, hl, h⟩ := h
        refine t_load true none b18 o19 e49 H47 (by kernel_rfl) hl ?_
        refine t_call true nslices_Delete__int_int [e49, (.int .i64 r46), (.int .i64 (IntKind.wrap .i64 (r46 + 1)))] H47 (by kernel_rfl) h ?_
        clear h
        rintro r50 H51 h
        refine t_ptr true b18 o19 H51 (by kernel_rfl) ?_
        refine t_op true (.fieldAddr 0 (.loc 0)) [.ptr b18 o19] H51 (.ptr b18 o19) H51 (by kernel_rfl) rfl ?_
        obtain ⟨H53, hp, h⟩ := h
        refine t_store true 1 b18 o19 r50 H53 H51 (by kernel_rfl) hp ?_
        refine t_done [(.ptr pb0 po1), (.int .i64 version2), (.bool false), (.int .i64 v8), (.int .i64 (len4 : Int)), (.bool (decide (v8 < (len4 : Int)))), (.int .i64 v8), (.ptr b18 o19), (.bool false), (.int .i64 r46), (.bool (decide (r46 ≥ 0))), (.bool true)] H53 (by kernel_rfl) ?_
        refine block_norm ?_
        refine then_norm ?_
        refine w_run [0, 0] ?_
        refine t_done [(.ptr pb0 po1), (.int .i64 version2), (.bool false), (.int .i64 (IntKind.wrap .i64 (v8 + 1))), (.int .i64 (len4 : Int)), (.bool (decide (v8 < (len4 : Int)))), (.int .i64 v8), (.ptr b18 o19), (.bool false), (.int .i64 r46), (.bool (decide (r46 ≥ 0))), (.bool true)] H53 (by kernel_rfl) ?_
        obtain ⟨m', hm, h⟩ := h
        refine loop_norm ⟨m', hm, _, _, _, _, _, _, _, _, rfl, h⟩
      · replace h := h.2 (is_dec.f hc)
        refine w_skip ?_
        refine block_norm ?_
        refine then_norm ?_
        refine w_run [0, 0] ?_
        refine t_done [(.ptr pb0 po1), (.int .i64 version2), (.bool false), (.int .i64 (IntKind.wrap .i64 (v8 + 1))), (.int .i64 (len4 : Int)), (.bool (decide (v8 < (len4 : Int)))), (.int .i64 v8), (.ptr b18 o19), (.bool false), (.int .i64 r46), (.bool (decide (r46 ≥ 0))), (.bool found15)] H47 (by kernel_rfl) ?_
        obtain ⟨m', hm, h⟩ := h
        refine loop_norm ⟨m', hm, _, _, _, _, _, _, _, _, rfl, h⟩
  · replace h := h.2 (is_dec.f hc)
    refine w_exit ?_
    refine then_exit ?_
    refine loop_exit ?_
    refine block_exit ?_
    refine then_norm ?_
    refine w_seq ?_
    refine w_run [0, 0] ?_
    refine t_done [(.ptr pb0 po1), (.int .i64 version2), (.bool found15), (.int .i64 v8), (.int .i64 (len4 : Int)), (.bool (decide (v8 < (len4 : Int)))), d10, d11, d12, d13, d14, (.bool found15)] H16 (by kernel_rfl) ?_
    refine then_norm ?_
    refine w_ret ?_
    exact body_ret (vs := [(.bool found15)]) _ (by kernel_rfl) rfl h

def rf_rollout_Run (ncanary_Decide nrollout_plan_step : Nat) : RFunc := ⟨5, 21, [.var 5, .part 6 (some 2)],
 ((.seq (.ops [⟨.tomb 1 (.var 1), none, (some 8), true⟩, ⟨.move (.k (.empty)), none, (some 5), true⟩, ⟨.tomb 1 (.k (.agg [.int .i64 0, .int .i64 0])), none, (some 6), true⟩])
 ((.seq ((.seq (.ops [⟨.move (.var 0), none, none, true⟩, ⟨.bin .lss .no (.loc 0) (.k (.int .i64 1)), none, none, true⟩, ⟨.move (.loc 1), none, none, true⟩, ⟨.move (.var 0), none, none, true⟩, ⟨.bin .gtr .no (.loc 3) (.k (.int .i64 5)), none, none, true⟩, ⟨.pick (.loc 2) (.k (.bool true)) (.loc 4), none, (some 7), true⟩])
 (.cond (.var 7) ((.seq (.ops [⟨.build [.int .i64 0, .int .i64 0] [(0, 1, (.k (.int .i64 3))), (1, 1, (.k (.int .i64 (-2))))], none, none, true⟩, ⟨.move (.k (.empty)), none, (some 5), true⟩, ⟨.upd 2 0 (.var 6) (.loc 0), none, (some 6), true⟩])
 (.ret))) (.skip))))
 ((.seq ((.seq (.ops [⟨.field 0 (some 2) (.var 8), none, none, true⟩, ⟨.build [.int .i64 0, .int .i64 0] [], none, none, true⟩, ⟨.move (.var 2), none, none, true⟩, ⟨.move (.var 3), none, none, true⟩, ⟨.callS ncanary_Decide [(.loc 0), (.loc 1), (.loc 2), (.loc 3)], none, none, true⟩, ⟨.move (.loc 4), none, none, true⟩, ⟨.extract (.loc 5) 0, none, none, true⟩, ⟨.extract (.loc 5) 1, none, none, true⟩, ⟨.tomb 1 (.k (.agg [.int .i64 0, .int .i64 0])), none, (some 9), true⟩, ⟨.move (.loc 6), none, none, true⟩, ⟨.upd 2 0 (.loc 8) (.loc 7), none, (some 9), true⟩])
 ((.seq (.ops [⟨.field 0 (some 2) (.var 9), none, none, true⟩, ⟨.build [.int .i64 0, .int .i64 0] [], none, none, true⟩, ⟨.bin .neq (.agg [.int, .int]) (.loc 0) (.loc 1), none, (some 10), true⟩])
 (.cond (.var 10) ((.seq (.ops [⟨.field 0 none (.var 9), none, none, true⟩, ⟨.field 0 none (.var 9), none, none, true⟩, ⟨.build [.int .i64 0, .int .i64 0] [(0, 1, (.loc 1)), (1, 1, (.k (.int .i64 (-3))))], none, none, true⟩, ⟨.move (.k (.empty)), none, (some 5), false⟩, ⟨.upd 2 0 (.var 6) (.loc 2), none, (some 6), true⟩])
 (.ret))) (.skip))))))
 ((.seq ((.seq (.ops [⟨.move (.var 4), none, none, true⟩, ⟨.len (.loc 0), none, none, true⟩, ⟨.bin .gtr .no (.loc 1) (.k (.int .i64 40)), none, (some 11), true⟩])
 (.cond (.var 11) ((.seq (.ops [⟨.build [.int .i64 0, .int .i64 0] [(0, 1, (.k (.int .i64 2))), (1, 1, (.k (.int .i64 (-1))))], none, none, true⟩, ⟨.move (.k (.empty)), none, (some 5), true⟩, ⟨.upd 2 0 (.var 6) (.loc 0), none, (some 6), true⟩])
 (.ret))) (.skip))))
 ((.seq (.ops [⟨.field 0 (some 2) (.var 8), none, none, false⟩, ⟨.move (.var 2), none, none, false⟩, ⟨.move (.var 3), none, none, false⟩, ⟨.move (.var 0), none, none, false⟩, ⟨.makeSlice 4 48 [.empty, .int .i64 0, .int .i64 0, .int .i64 0] (.loc 3) (.loc 3), none, none, false⟩, ⟨.build [.int .i64 0, .int .i64 0, .int .i64 0, .int .i64 0, .empty] [(0, 2, (.loc 0)), (2, 1, (.loc 1)), (3, 1, (.loc 2)), (4, 1, (.loc 4))], none, none, false⟩, ⟨.alloc 1 [.int .i64 0, .int .i64 0, .int .i64 0, .int .i64 0, .empty], none, (some 17), false⟩, ⟨.store 5 (.loc 6) (.loc 5) [], none, none, true⟩])
 ((.seq ((.seq (.ops [⟨.move (.var 4), none, (some 15), true⟩, ⟨.len (.loc 0), none, (some 13), true⟩, ⟨.move (.k (.int .i64 0)), none, (some 12), true⟩])
 (.block 0 (.loop ((.seq (.ops [⟨.bin .lss .no (.var 12) (.var 13), none, (some 14), true⟩])
 ((.seq (.cond (.var 14) (.skip) (.exit 0))
 ((.seq (.block 1 ((.seq (.ops [⟨.move (.var 12), none, none, true⟩, ⟨.indexAddr 5 (.var 15) (.var 12), none, none, true⟩, ⟨.load (some 5) (.loc 1), none, none, true⟩, ⟨.tomb 1 (.k (.agg [.int .i64 0, .int .i64 0, .int .i64 0, .int .i64 0, .int .i64 0])), none, (some 16), true⟩, ⟨.move (.loc 0), none, (some 20), true⟩, ⟨.upd 5 0 (.loc 3) (.loc 2), none, (some 16), true⟩])
 ((.seq (.ops [⟨.field 0 (some 5) (.var 16), none, none, true⟩, ⟨.callS nrollout_plan_step [(.var 17), (.loc 0)], none, none, true⟩, ⟨.move (.loc 1), none, (some 18), true⟩])
 ((.seq (.ops [⟨.move (.var 18), none, none, true⟩, ⟨.bin .neq .no (.loc 0) (.k (.int .i64 0)), none, (some 19), true⟩])
 (.cond (.var 19) ((.seq (.ops [⟨.move (.var 18), none, none, true⟩, ⟨.move (.var 20), none, none, true⟩, ⟨.build [.int .i64 0, .int .i64 0] [(0, 1, (.loc 0)), (1, 1, (.loc 1))], none, none, true⟩, ⟨.move (.k (.empty)), none, (some 5), true⟩, ⟨.upd 2 0 (.var 6) (.loc 2), none, (some 6), true⟩])
 (.ret))) (.skip)))))))))
 (.ops [⟨.bin .add .no (.var 12) (.k (.int .i64 1)), none, none, true⟩, ⟨.move (.loc 0), none, (some 12), true⟩])))))))))))
 ((.seq (.ops [⟨.fieldAddr 4 (.var 17), none, none, true⟩, ⟨.load none (.loc 0), none, none, true⟩, ⟨.build [.int .i64 0, .int .i64 0] [], none, none, true⟩, ⟨.move (.loc 1), none, (some 5), true⟩, ⟨.upd 2 0 (.var 6) (.loc 2), none, (some 6), true⟩])
 (.ret)))))))))))))))⟩
theorem v_rollout_Run {F : Nat → Option RFunc} {me ncanary_Decide nrollout_plan_step : Nat} (hF : F me = some (rf_rollout_Run ncanary_Decide nrollout_plan_step)) {fl : Nat} {H : Heap} {Q : AV → Heap → Prop} (rings0 : Int) (base1 : Int) (base2 : Int) (need3 : Int) (perMille4 : Int) (events5 : AV)
  (h : ∀ (H6 : Heap), Dead1 H 1 H6 → ∀ (H7 : Heap), Dead1 H6 1 H7 → ((((rings0 < 1) ∨ (rings0 > 5))) → Q (.tuple [.empty, (.agg [(.int .i64 3), (.int .i64 (-2))])]) H7) ∧ (¬(((rings0 < 1) ∨ (rings0 > 5))) → Ret F fl ncanary_Decide [(.agg [(.int .i64 base1), (.int .i64 base2)]), (.agg [(.int .i64 0), (.int .i64 0)]), (.int .i64 need3), (.int .i64 perMille4)] H7 (fun v12 H11 => ∃ (r8 : Int) (r9 : Int) (r10 : Int), v12 = (.tuple [(.int .i64 r8), (.agg [(.int .i64 r9), (.int .i64 r10)])]) ∧ ∀ (H13 : Heap), Dead1 H11 1 H13 → ((¬(((r9 = 0) ∧ (((r10 = 0) ∧ (True)))))) → Q (.tuple [.empty, (.agg [(.int .i64 r9), (.int .i64 (-3))])]) H13) ∧ (¬(¬(((r9 = 0) ∧ (((r10 = 0) ∧ (True)))))) → ∃ len14 : Nat, lenA events5 = some len14 ∧ (((len14 : Int) > 40) → Q (.tuple [.empty, (.agg [(.int .i64 2), (.int .i64 (-1))])]) H13) ∧ (¬((len14 : Int) > 40) → (0 ≤ rings0 ∧ rings0 ≤ rings0 ∧ (48 : Int) * rings0 ≤ 2 ^ 47 ∧ rings0 < 2 ^ 62) ∧ ∀ (b15 : Nat) (H16 : Heap), NewB H13 4 (zeros (Int.toNat rings0) [.empty, (.int .i64 0), (.int .i64 0), (.int .i64 0)]) b15 H16 → ∀ (b17 : Nat) (H18 : Heap), NewB H16 1 [(.int .i64 0), (.int .i64 0), (.int .i64 0), (.int .i64 0), .empty] b17 H18 → ∃ H19 : Heap, putA fl H18 b17 0 5 (.agg [(.int .i64 base1), (.int .i64 base2), (.int .i64 need3), (.int .i64 perMille4), (.slice b15 0 (Int.toNat rings0) (some (Int.toNat rings0)))]) = some H19 ∧ ∃ len20 : Nat, lenA events5 = some len20 ∧ ∃ (J21 : Nat → Int → Int → Int → Heap → Prop) (k22 : Nat), J21 k22 0 0 0 H19 ∧ (∀ (m23 : Nat) (v25 : Int) (v26 : Int) (v27 : Int) (H33 : Heap), J21 m23 v25 v26 v27 H33 → ((v27 < (len20 : Int)) → ∃ (e34 : Int) (e35 : Int) (e36 : Int) (e37 : Int) (e38 : Int), getA H33 5 (some 5) events5 v27 0 = some (.agg [(.int .i64 e34), (.int .i64 e35), (.int .i64 e36), (.int .i64 e37), (.int .i64 e38)]) ∧ ∀ (H40 : Heap), Dead1 H33 1 H40 → Ret F fl nrollout_plan_step [(.ptr b17 0), (.agg [(.int .i64 e34), (.int .i64 e35), (.int .i64 e36), (.int .i64 e37), (.int .i64 e38)])] H40 (fun v43 H42 => ∃ (r41 : Int), v43 = (.int .i64 r41) ∧ ((r41 ≠ 0) → Q (.tuple [.empty, (.agg [(.int .i64 r41), (.int .i64 v27)])]) H42) ∧ (¬(r41 ≠ 0) → ∃ m44 : Nat, m44 < m23 ∧ J21 m44 v25 v26 (IntKind.wrap .i64 (v27 + 1)) H42))) ∧ (¬(v27 < (len20 : Int)) → ∃ (e45 : AV), rload H33 none b17 (0 + 4) = some e45 ∧ Q (.tuple [e45, (.agg [(.int .i64 0), (.int .i64 0)])]) H33))))))) : Ret F fl me [(.int .i64 rings0), (.agg [(.int .i64 base1), (.int .i64 base2)]), (.int .i64 need3), (.int .i64 perMille4), events5] H Q := by
  refine ret_intro hF rfl ?_
  refine w_seq ?_
  refine w_run [1, 0, 1] ?_
  obtain ⟨H6, hb⟩ : ∃ H', Dead1 H 1 H' := ⟨_, ⟨rfl⟩⟩
  replace h := h H6 hb
  refine t_tomb true 1 (.agg [(.int .i64 base1), (.int .i64 base2)]) [(.int .i64 base1), (.int .i64 base2)] H6 H (by kernel_rfl) rfl hb ?_
  obtain ⟨H7, hb⟩ : ∃ H', Dead1 H6 1 H' := ⟨_, ⟨rfl⟩⟩
  replace h := h H7 hb
  refine t_tomb true 1 (.agg [(.int .i64 0), (.int .i64 0)]) [(.int .i64 0), (.int .i64 0)] H7 H6 (by kernel_rfl) rfl hb ?_
  refine t_done [(.int .i64 rings0), (.agg [(.int .i64 base1), (.int .i64 base2)]), (.int .i64 need3), (.int .i64 perMille4), events5, .empty, (.agg [(.int .i64 0), (.int .i64 0)]), .undef, (.agg [(.int .i64 base1), (.int .i64 base2)]), .undef, .undef, .undef, .undef, .undef, .undef, .undef, .undef, .undef, .undef, .undef, .undef] H7 (by kernel_rfl) ?_
  refine then_norm ?_
  refine w_seq ?_
  refine w_seq ?_
  refine w_run [0, 0, 0, 0, 0, 0] ?_
  refine t_done [(.int .i64 rings0), (.agg [(.int .i64 base1), (.int .i64 base2)]), (.int .i64 need3), (.int .i64 perMille4), events5, .empty, (.agg [(.int .i64 0), (.int .i64 0)]), (.bool ((decide (rings0 < 1)) || (decide (rings0 > 5)))), (.agg [(.int .i64 base1), (.int .i64 base2)]), .undef, .undef, .undef, .undef, .undef, .undef, .undef, .undef, .undef, .undef, .undef, .undef] H7 (by kernel_rfl) ?_
  refine then_norm ?_
  refine w_cond (t := ((decide (rings0 < 1)) || (decide (rings0 > 5)))) rfl (fun hc => ?_) (fun hc => ?_)
  · replace h := h.1 ((is_or is_dec is_dec).t hc)
    refine w_seq ?_
    refine w_run [1, 0, 1] ?_
    refine t_build true [(.int .i64 0), (.int .i64 0)] [(0, 1, .loc 0), (1, 1, .loc 1)] [(.int .i64 3), (.int .i64 (-2))] [(.int .i64 3), (.int .i64 (-2))] H7 (by kernel_rfl) (fill_c (vs := [(.int .i64 3)]) (size := 1) rfl (by kernel_rfl) (by kernel_rfl) (fill_c (vs := [(.int .i64 (-2))]) (size := 1) rfl (by kernel_rfl) (by kernel_rfl) (by kernel_rfl))) ?_
    refine t_upd true 2 0 [(.int .i64 0), (.int .i64 0)] (.agg [(.int .i64 3), (.int .i64 (-2))]) [(.int .i64 3), (.int .i64 (-2))] [(.int .i64 3), (.int .i64 (-2))] H7 (by kernel_rfl) rfl (all_c rfl (all_c rfl all_n)) ⟨rfl, Nat.le_of_ble_eq_true (by kernel_rfl), rfl⟩ ?_
    refine t_done [(.int .i64 rings0), (.agg [(.int .i64 base1), (.int .i64 base2)]), (.int .i64 need3), (.int .i64 perMille4), events5, .empty, (.agg [(.int .i64 3), (.int .i64 (-2))]), (.bool ((decide (rings0 < 1)) || (decide (rings0 > 5)))), (.agg [(.int .i64 base1), (.int .i64 base2)]), .undef, .undef, .undef, .undef, .undef, .undef, .undef, .undef, .undef, .undef, .undef, .undef] H7 (by kernel_rfl) ?_
    refine then_norm ?_
    refine w_ret ?_
    refine then_ret ?_
    exact body_ret (vs := [.empty, (.agg [(.int .i64 3), (.int .i64 (-2))])]) _ (by kernel_rfl) rfl h
  · replace h := h.2 ((is_or is_dec is_dec).f hc)
    refine w_skip ?_
    refine then_norm ?_
    refine w_seq ?_
    refine w_seq ?_
    refine w_run [0, 1, 0, 0, 1, 0, 0, 0, 1, 0, 1] ?_
    refine t_build true [(.int .i64 0), (.int .i64 0)] [] [] [(.int .i64 0), (.int .i64 0)] H7 (by kernel_rfl) (by kernel_rfl) ?_
    refine t_call true ncanary_Decide [(.agg [(.int .i64 base1), (.int .i64 base2)]), (.agg [(.int .i64 0), (.int .i64 0)]), (.int .i64 need3), (.int .i64 perMille4)] H7 (by kernel_rfl) h ?_
    clear h
    rintro _ H11 ⟨r8, r9, r10, rfl, h⟩
    obtain ⟨H13, hb⟩ : ∃ H', Dead1 H11 1 H' := ⟨_, ⟨rfl⟩⟩
    replace h := h H13 hb
    refine t_tomb true 1 (.agg [(.int .i64 0), (.int .i64 0)]) [(.int .i64 0), (.int .i64 0)] H13 H11 (by kernel_rfl) rfl hb ?_
    refine t_upd true 2 0 [(.int .i64 0), (.int .i64 0)] (.agg [(.int .i64 r9), (.int .i64 r10)]) [(.int .i64 r9), (.int .i64 r10)] [(.int .i64 r9), (.int .i64 r10)] H13 (by kernel_rfl) rfl (all_c rfl (all_c rfl all_n)) ⟨rfl, Nat.le_of_ble_eq_true (by kernel_rfl), rfl⟩ ?_
    refine t_done [(.int .i64 rings0), (.agg [(.int .i64 base1), (.int .i64 base2)]), (.int .i64 need3), (.int .i64 perMille4), events5, .empty, (.agg [(.int .i64 0), (.int .i64 0)]), (.bool ((decide (rings0 < 1)) || (decide (rings0 > 5)))), (.agg [(.int .i64 base1), (.int .i64 base2)]), (.agg [(.int .i64 r9), (.int .i64 r10)]), .undef, .undef, .undef, .undef, .undef, .undef, .undef, .undef, .undef, .undef, .undef] H13 (by kernel_rfl) ?_
    refine then_norm ?_
    refine w_seq ?_
    refine w_run [0, 1, 0] ?_
    refine t_build true [(.int .i64 0), (.int .i64 0)] [] [] [(.int .i64 0), (.int .i64 0)] H13 (by kernel_rfl) (by kernel_rfl) ?_
    refine t_done [(.int .i64 rings0), (.agg [(.int .i64 base1), (.int .i64 base2)]), (.int .i64 need3), (.int .i64 perMille4), events5, .empty, (.agg [(.int .i64 0), (.int .i64 0)]), (.bool ((decide (rings0 < 1)) || (decide (rings0 > 5)))), (.agg [(.int .i64 base1), (.int .i64 base2)]), (.agg [(.int .i64 r9), (.int .i64 r10)]), (.bool (!(((r9) == 0) && (((r10) == 0) && true)))), .undef, .undef, .undef, .undef, .undef, .undef, .undef, .undef, .undef, .undef] H13 (by kernel_rfl) ?_
    refine then_norm ?_
    refine w_cond (t := (!(((r9) == 0) && (((r10) == 0) && true)))) rfl (fun hc => ?_) (fun hc => ?_)
    · replace h := h.1 ((is_not (is_and is_eq (is_and is_eq is_true))).t hc)
      refine w_seq ?_
      refine w_run [0, 0, 1, 0, 1] ?_
      refine t_build true [(.int .i64 0), (.int .i64 0)] [(0, 1, .loc 0), (1, 1, .loc 1)] [(.int .i64 r9), (.int .i64 (-3))] [(.int .i64 r9), (.int .i64 (-3))] H13 (by kernel_rfl) (fill_c (vs := [(.int .i64 r9)]) (size := 1) rfl (by kernel_rfl) (by kernel_rfl) (fill_c (vs := [(.int .i64 (-3))]) (size := 1) rfl (by kernel_rfl) (by kernel_rfl) (by kernel_rfl))) ?_
      refine t_upd true 2 0 [(.int .i64 0), (.int .i64 0)] (.agg [(.int .i64 r9), (.int .i64 (-3))]) [(.int .i64 r9), (.int .i64 (-3))] [(.int .i64 r9), (.int .i64 (-3))] H13 (by kernel_rfl) rfl (all_c rfl (all_c rfl all_n)) ⟨rfl, Nat.le_of_ble_eq_true (by kernel_rfl), rfl⟩ ?_
      refine t_done [(.int .i64 rings0), (.agg [(.int .i64 base1), (.int .i64 base2)]), (.int .i64 need3), (.int .i64 perMille4), events5, .empty, (.agg [(.int .i64 r9), (.int .i64 (-3))]), (.bool ((decide (rings0 < 1)) || (decide (rings0 > 5)))), (.agg [(.int .i64 base1), (.int .i64 base2)]), (.agg [(.int .i64 r9), (.int .i64 r10)]), (.bool (!(((r9) == 0) && (((r10) == 0) && true)))), .undef, .undef, .undef, .undef, .undef, .undef, .undef, .undef, .undef, .undef] H13 (by kernel_rfl) ?_
      refine then_norm ?_
      refine w_ret ?_
      refine then_ret ?_
      exact body_ret (vs := [.empty, (.agg [(.int .i64 r9), (.int .i64 (-3))])]) _ (by kernel_rfl) rfl h
    · replace h := h.2 ((is_not (is_and is_eq (is_and is_eq is_true))).f hc)
      refine w_skip ?_
      refine then_norm ?_
      refine w_seq ?_
      refine w_seq ?_
      refine w_run [0, 1, 0] ?_
      obtain ⟨len14, hl, h⟩ := h
      refine t_len true events5 len14 H13 (by kernel_rfl) hl ?_
      refine t_done [(.int .i64 rings0), (.agg [(.int .i64 base1), (.int .i64 base2)]), (.int .i64 need3), (.int .i64 perMille4), events5, .empty, (.agg [(.int .i64 0), (.int .i64 0)]), (.bool ((decide (rings0 < 1)) || (decide (rings0 > 5)))), (.agg [(.int .i64 base1), (.int .i64 base2)]), (.agg [(.int .i64 r9), (.int .i64 r10)]), (.bool (!(((r9) == 0) && (((r10) == 0) && true)))), (.bool (decide ((len14 : Int) > 40))), .undef, .undef, .undef, .undef, .undef, .undef, .undef, .undef, .undef] H13 (by kernel_rfl) ?_
      refine then_norm ?_
      refine w_cond (t := (decide ((len14 : Int) > 40))) rfl (fun hc => ?_) (fun hc => ?_)
      · replace h := h.1 (is_dec.t hc)
        refine w_seq ?_
        refine w_run [1, 0, 1] ?_
        refine t_build true [(.int .i64 0), (.int .i64 0)] [(0, 1, .loc 0), (1, 1, .loc 1)] [(.int .i64 2), (.int .i64 (-1))] [(.int .i64 2), (.int .i64 (-1))] H13 (by kernel_rfl) (fill_c (vs := [(.int .i64 2)]) (size := 1) rfl (by kernel_rfl) (by kernel_rfl) (fill_c (vs := [(.int .i64 (-1))]) (size := 1) rfl (by kernel_rfl) (by kernel_rfl) (by kernel_rfl))) ?_
        refine t_upd true 2 0 [(.int .i64 0), (.int .i64 0)] (.agg [(.int .i64 2), (.int .i64 (-1))]) [(.int .i64 2), (.int .i64 (-1))] [(.int .i64 2), (.int .i64 (-1))] H13 (by kernel_rfl) rfl (all_c rfl (all_c rfl all_n)) ⟨rfl, Nat.le_of_ble_eq_true (by kernel_rfl), rfl⟩ ?_
        refine t_done [(.int .i64 rings0), (.agg [(.int .i64 base1), (.int .i64 base2)]), (.int .i64 need3), (.int .i64 perMille4), events5, .empty, (.agg [(.int .i64 2), (.int .i64 (-1))]), (.bool ((decide (rings0 < 1)) || (decide (rings0 > 5)))), (.agg [(.int .i64 base1), (.int .i64 base2)]), (.agg [(.int .i64 r9), (.int .i64 r10)]), (.bool (!(((r9) == 0) && (((r10) == 0) && true)))), (.bool (decide ((len14 : Int) > 40))), .undef, .undef, .undef, .undef, .undef, .undef, .undef, .undef, .undef] H13 (by kernel_rfl) ?_
        refine then_norm ?_
        refine w_ret ?_
        refine then_ret ?_
        exact body_ret (vs := [.empty, (.agg [(.int .i64 2), (.int .i64 (-1))])]) _ (by kernel_rfl) rfl h
      · replace h := h.2 (is_dec.f hc)
        refine w_skip ?_
        refine then_norm ?_
        refine w_seq ?_
        refine w_run [0, 0, 0, 0, 1, 1, 1, 1] ?_
        obtain ⟨hc, h⟩ := h
        obtain ⟨b15, H16, hb⟩ : ∃ b H', NewB H13 4 (zeros (Int.toNat rings0) [.empty, (.int .i64 0), (.int .i64 0), (.int .i64 0)]) b H' := ⟨_, _, rfl, rfl⟩
        replace h := h b15 H16 hb
        refine t_make false 4 48 [.empty, (.int .i64 0), (.int .i64 0), (.int .i64 0)] rings0 rings0 b15 H16 H13 (by kernel_rfl) hc hb ?_
        refine t_build false [(.int .i64 0), (.int .i64 0), (.int .i64 0), (.int .i64 0), .empty] [(0, 2, .loc 0), (2, 1, .loc 1), (3, 1, .loc 2), (4, 1, .loc 3)] [(.agg [(.int .i64 base1), (.int .i64 base2)]), (.int .i64 need3), (.int .i64 perMille4), (.slice b15 0 (Int.toNat rings0) (some (Int.toNat rings0)))] [(.int .i64 base1), (.int .i64 base2), (.int .i64 need3), (.int .i64 perMille4), (.slice b15 0 (Int.toNat rings0) (some (Int.toNat rings0)))] H16 (by kernel_rfl) (fill_c (vs := [(.int .i64 base1), (.int .i64 base2)]) (size := 2) rfl (by kernel_rfl) (by kernel_rfl) (fill_c (vs := [(.int .i64 need3)]) (size := 1) rfl (by kernel_rfl) (by kernel_rfl) (fill_c (vs := [(.int .i64 perMille4)]) (size := 1) rfl (by kernel_rfl) (by kernel_rfl) (fill_c (vs := [(.slice b15 0 (Int.toNat rings0) (some (Int.toNat rings0)))]) (size := 1) rfl (by kernel_rfl) (by kernel_rfl) (by kernel_rfl))))) ?_
        obtain ⟨b17, H18, hb⟩ : ∃ b H', NewB H16 1 [(.int .i64 0), (.int .i64 0), (.int .i64 0), (.int .i64 0), .empty] b H' := ⟨_, _, rfl, rfl⟩
        replace h := h b17 H18 hb
        refine t_alloc false 1 [(.int .i64 0), (.int .i64 0), (.int .i64 0), (.int .i64 0), .empty] b17 H18 H16 (by kernel_rfl) hb ?_
        obtain ⟨H19, hp, h⟩ := h
        refine t_store true 5 b17 0 (.agg [(.int .i64 base1), (.int .i64 base2), (.int .i64 need3), (.int .i64 perMille4), (.slice b15 0 (Int.toNat rings0) (some (Int.toNat rings0)))]) H19 H18 (by kernel_rfl) hp ?_
        refine t_done [(.int .i64 rings0), (.agg [(.int .i64 base1), (.int .i64 base2)]), (.int .i64 need3), (.int .i64 perMille4), events5, .empty, (.agg [(.int .i64 0), (.int .i64 0)]), (.bool ((decide (rings0 < 1)) || (decide (rings0 > 5)))), (.agg [(.int .i64 base1), (.int .i64 base2)]), (.agg [(.int .i64 r9), (.int .i64 r10)]), (.bool (!(((r9) == 0) && (((r10) == 0) && true)))), (.bool (decide ((len14 : Int) > 40))), .undef, .undef, .undef, .undef, .undef, (.ptr b17 0), .undef, .undef, .undef] H19 (by kernel_rfl) ?_
        refine then_norm ?_
        refine w_seq ?_
        refine w_seq ?_
        refine w_run [0, 1, 0] ?_
        obtain ⟨len20, hl, h⟩ := h
        refine t_len true events5 len20 H19 (by kernel_rfl) hl ?_
        refine t_done [(.int .i64 rings0), (.agg [(.int .i64 base1), (.int .i64 base2)]), (.int .i64 need3), (.int .i64 perMille4), events5, .empty, (.agg [(.int .i64 0), (.int .i64 0)]), (.bool ((decide (rings0 < 1)) || (decide (rings0 > 5)))), (.agg [(.int .i64 base1), (.int .i64 base2)]), (.agg [(.int .i64 r9), (.int .i64 r10)]), (.bool (!(((r9) == 0) && (((r10) == 0) && true)))), (.bool (decide ((len14 : Int) > 40))), (.int .i64 0), (.int .i64 (len20 : Int)), .undef, events5, .undef, (.ptr b17 0), .undef, .undef, .undef] H19 (by kernel_rfl) ?_
        refine then_norm ?_
        refine w_block ?_
        obtain ⟨J21, k22, h0, h⟩ := h
        refine w_loop (I := fun mI EI HI => ∃ (d24 : AV) (v25 : Int) (v26 : Int) (v27 : Int) (d28 : AV) (d29 : AV) (d30 : AV) (d31 : AV) (d32 : AV), EI = [(.int .i64 rings0), (.agg [(.int .i64 base1), (.int .i64 base2)]), (.int .i64 need3), (.int .i64 perMille4), events5, d24, (.agg [(.int .i64 v25), (.int .i64 v26)]), (.bool ((decide (rings0 < 1)) || (decide (rings0 > 5)))), (.agg [(.int .i64 base1), (.int .i64 base2)]), (.agg [(.int .i64 r9), (.int .i64 r10)]), (.bool (!(((r9) == 0) && (((r10) == 0) && true)))), (.bool (decide ((len14 : Int) > 40))), (.int .i64 v27), (.int .i64 (len20 : Int)), d28, events5, d29, (.ptr b17 0), d30, d31, d32] ∧ J21 mI v25 v26 v27 HI) ?_ k22 ⟨_, _, _, _, _, _, _, _, _, rfl, h0⟩
        clear h0
        rintro m23 EI H33 ⟨d24, v25, v26, v27, d28, d29, d30, d31, d32, rfl, hJ⟩
        replace h := h m23 v25 v26 v27 H33 hJ
        clear hJ
        refine w_seq ?_
        refine w_run [0] ?_
        refine t_done [(.int .i64 rings0), (.agg [(.int .i64 base1), (.int .i64 base2)]), (.int .i64 need3), (.int .i64 perMille4), events5, d24, (.agg [(.int .i64 v25), (.int .i64 v26)]), (.bool ((decide (rings0 < 1)) || (decide (rings0 > 5)))), (.agg [(.int .i64 base1), (.int .i64 base2)]), (.agg [(.int .i64 r9), (.int .i64 r10)]), (.bool (!(((r9) == 0) && (((r10) == 0) && true)))), (.bool (decide ((len14 : Int) > 40))), (.int .i64 v27), (.int .i64 (len20 : Int)), (.bool (decide (v27 < (len20 : Int)))), events5, d29, (.ptr b17 0), d30, d31, d32] H33 (by kernel_rfl) ?_
        refine then_norm ?_
        refine w_seq ?_
        refine w_cond (t := (decide (v27 < (len20 : Int)))) rfl (fun hc => ?_) (fun hc => ?_)
        · replace h := h.1 (is_dec.t hc)
          refine w_skip ?_
          refine then_norm ?_
          refine w_seq ?_
          refine w_block ?_
          refine w_seq ?_
          refine w_run [0, 1, 1, 1, 0, 1] ?_
          obtain ⟨e34, e35, e36, e37, e38, hg39, h⟩ := h
          refine t_idxG true 5 events5 .i64 v27 H33 (by kernel_rfl) hg39 ?_
          refine t_loadG true (some 5) 5 events5 v27 0 (.agg [(.int .i64 e34), (.int .i64 e35), (.int .i64 e36), (.int .i64 e37), (.int .i64 e38)]) H33 (by kernel_rfl) hg39 ?_
          obtain ⟨H40, hb⟩ : ∃ H', Dead1 H33 1 H' := ⟨_, ⟨rfl⟩⟩
          replace h := h H40 hb
          refine t_tomb true 1 (.agg [(.int .i64 0), (.int .i64 0), (.int .i64 0), (.int .i64 0), (.int .i64 0)]) [(.int .i64 0), (.int .i64 0), (.int .i64 0), (.int .i64 0), (.int .i64 0)] H40 H33 (by kernel_rfl) rfl hb ?_
          refine t_upd true 5 0 [(.int .i64 0), (.int .i64 0), (.int .i64 0), (.int .i64 0), (.int .i64 0)] (.agg [(.int .i64 e34), (.int .i64 e35), (.int .i64 e36), (.int .i64 e37), (.int .i64 e38)]) [(.int .i64 e34), (.int .i64 e35), (.int .i64 e36), (.int .i64 e37), (.int .i64 e38)] [(.int .i64 e34), (.int .i64 e35), (.int .i64 e36), (.int .i64 e37), (.int .i64 e38)] H40 (by kernel_rfl) rfl (all_c rfl (all_c rfl (all_c rfl (all_c rfl (all_c rfl all_n))))) ⟨rfl, Nat.le_of_ble_eq_true (by kernel_rfl), rfl⟩ ?_
          refine t_done [(.int .i64 rings0), (.agg [(.int .i64 base1), (.int .i64 base2)]), (.int .i64 need3), (.int .i64 perMille4), events5, d24, (.agg [(.int .i64 v25), (.int .i64 v26)]), (.bool ((decide (rings0 < 1)) || (decide (rings0 > 5)))), (.agg [(.int .i64 base1), (.int .i64 base2)]), (.agg [(.int .i64 r9), (.int .i64 r10)]), (.bool (!(((r9) == 0) && (((r10) == 0) && true)))), (.bool (decide ((len14 : Int) > 40))), (.int .i64 v27), (.int .i64 (len20 : Int)), (.bool (decide (v27 < (len20 : Int)))), events5, (.agg [(.int .i64 e34), (.int .i64 e35), (.int .i64 e36), (.int .i64 e37), (.int .i64 e38)]), (.ptr b17 0), d30, d31, (.int .i64 v27)] H40 (by kernel_rfl) ?_
          refine then_norm ?_
          refine w_seq ?_
          refine w_run [0, 1, 0] ?_
          refine t_call true nrollout_plan_step [(.ptr b17 0), (.agg [(.int .i64 e34), (.int .i64 e35), (.int .i64 e36), (.int .i64 e37), (.int .i64 e38)])] H40 (by kernel_rfl) h ?_
          clear h
          rintro _ H42 ⟨r41, rfl, h⟩
          refine t_done [(.int .i64 rings0), (.agg [(.int .i64 base1), (.int .i64 base2)]), (.int .i64 need3), (.int .i64 perMille4), events5, d24, (.agg [(.int .i64 v25), (.int .i64 v26)]), (.bool ((decide (rings0 < 1)) || (decide (rings0 > 5)))), (.agg [(.int .i64 base1), (.int .i64 base2)]), (.agg [(.int .i64 r9), (.int .i64 r10)]), (.bool (!(((r9) == 0) && (((r10) == 0) && true)))), (.bool (decide ((len14 : Int) > 40))), (.int .i64 v27), (.int .i64 (len20 : Int)), (.bool (decide (v27 < (len20 : Int)))), events5, (.agg [(.int .i64 e34), (.int .i64 e35), (.int .i64 e36), (.int .i64 e37), (.int .i64 e38)]), (.ptr b17 0), (.int .i64 r41), d31, (.int .i64 v27)] H42 (by kernel_rfl) ?_
          refine then_norm ?_
          refine w_seq ?_
          refine w_run [0, 0] ?_
          refine t_done [(.int .i64 rings0), (.agg [(.int .i64 base1), (.int .i64 base2)]), (.int .i64 need3), (.int .i64 perMille4), events5, d24, (.agg [(.int .i64 v25), (.int .i64 v26)]), (.bool ((decide (rings0 < 1)) || (decide (rings0 > 5)))), (.agg [(.int .i64 base1), (.int .i64 base2)]), (.agg [(.int .i64 r9), (.int .i64 r10)]), (.bool (!(((r9) == 0) && (((r10) == 0) && true)))), (.bool (decide ((len14 : Int) > 40))), (.int .i64 v27), (.int .i64 (len20 : Int)), (.bool (decide (v27 < (len20 : Int)))), events5, (.agg [(.int .i64 e34), (.int .i64 e35), (.int .i64 e36), (.int .i64 e37), (.int .i64 e38)]), (.ptr b17 0), (.int .i64 r41), (.bool ((r41) != 0)), (.int .i64 v27)] H42 (by kernel_rfl) ?_
          refine then_norm ?_
          refine w_cond (t := ((r41) != 0)) rfl (fun hc => ?_) (fun hc => ?_)
          · replace h := h.1 (is_ne.t hc)
            refine w_seq ?_
            refine w_run [0, 0, 1, 0, 1] ?_
            refine t_build true [(.int .i64 0), (.int .i64 0)] [(0, 1, .loc 0), (1, 1, .loc 1)] [(.int .i64 r41), (.int .i64 v27)] [(.int .i64 r41), (.int .i64 v27)] H42 (by kernel_rfl) (fill_c (vs := [(.int .i64 r41)]) (size := 1) rfl (by kernel_rfl) (by kernel_rfl) (fill_c (vs := [(.int .i64 v27)]) (size := 1) rfl (by kernel_rfl) (by kernel_rfl) (by kernel_rfl))) ?_
            refine t_upd true 2 0 [(.int .i64 v25), (.int .i64 v26)] (.agg [(.int .i64 r41), (.int .i64 v27)]) [(.int .i64 r41), (.int .i64 v27)] [(.int .i64 r41), (.int .i64 v27)] H42 (by kernel_rfl) rfl (all_c rfl (all_c rfl all_n)) ⟨rfl, Nat.le_of_ble_eq_true (by kernel_rfl), rfl⟩ ?_
            refine t_done [(.int .i64 rings0), (.agg [(.int .i64 base1), (.int .i64 base2)]), (.int .i64 need3), (.int .i64 perMille4), events5, .empty, (.agg [(.int .i64 r41), (.int .i64 v27)]), (.bool ((decide (rings0 < 1)) || (decide (rings0 > 5)))), (.agg [(.int .i64 base1), (.int .i64 base2)]), (.agg [(.int .i64 r9), (.int .i64 r10)]), (.bool (!(((r9) == 0) && (((r10) == 0) && true)))), (.bool (decide ((len14 : Int) > 40))), (.int .i64 v27), (.int .i64 (len20 : Int)), (.bool (decide (v27 < (len20 : Int)))), events5, (.agg [(.int .i64 e34), (.int .i64 e35), (.int .i64 e36), (.int .i64 e37), (.int .i64 e38)]), (.ptr b17 0), (.int .i64 r41), (.bool ((r41) != 0)), (.int .i64 v27)] H42 (by kernel_rfl) ?_
            refine then_norm ?_
            refine w_ret ?_
            refine block_ret ?_
            refine then_ret ?_
            refine loop_ret ?_
            refine block_ret ?_
            refine then_ret ?_
            exact body_ret (vs := [.empty, (.agg [(.int .i64 r41), (.int .i64 v27)])]) _ (by kernel_rfl) rfl h
          · replace h := h.2 (is_ne.f hc)
            refine w_skip ?_
            refine block_norm ?_
            refine then_norm ?_
            refine w_run [0, 0] ?_
            refine t_done [(.int .i64 rings0), (.agg [(.int .i64 base1), (.int .i64 base2)]), (.int .i64 need3), (.int .i64 perMille4), events5, d24, (.agg [(.int .i64 v25), (.int .i64 v26)]), (.bool ((decide (rings0 < 1)) || (decide (rings0 > 5)))), (.agg [(.int .i64 base1), (.int .i64 base2)]), (.agg [(.int .i64 r9), (.int .i64 r10)]), (.bool (!(((r9) == 0) && (((r10) == 0) && true)))), (.bool (decide ((len14 : Int) > 40))), (.int .i64 (IntKind.wrap .i64 (v27 + 1))), (.int .i64 (len20 : Int)), (.bool (decide (v27 < (len20 : Int)))), events5, (.agg [(.int .i64 e34), (.int .i64 e35), (.int .i64 e36), (.int .i64 e37), (.int .i64 e38)]), (.ptr b17 0), (.int .i64 r41), (.bool ((r41) != 0)), (.int .i64 v27)] H42 (by kernel_rfl) ?_
            obtain ⟨m', hm, h⟩ := h
            refine loop_norm ⟨m', hm, _, _, _, _, _, _, _, _, _, rfl, h⟩
        · replace h := h.2 (is_dec.f hc)
          refine w_exit ?_
          refine then_exit ?_
          refine loop_exit ?_
          refine block_exit ?_
          refine then_norm ?_
          refine w_seq ?_
          refine w_run [1, 1, 1, 0, 1] ?_
          refine t_op true (.fieldAddr 4 (.loc 0)) [.ptr b17 0] H33 (.ptr b17 (0 + 4)) H33 (by kernel_rfl) rfl ?_
          obtain ⟨e45, hl, h⟩ := h
          refine t_load true none b17 (0 + 4) e45 H33 (by kernel_rfl) hl ?_
          refine t_build true [(.int .i64 0), (.int .i64 0)] [] [] [(.int .i64 0), (.int .i64 0)] H33 (by kernel_rfl) (by kernel_rfl) ?_
          refine t_upd true 2 0 [(.int .i64 v25), (.int .i64 v26)] (.agg [(.int .i64 0), (.int .i64 0)]) [(.int .i64 0), (.int .i64 0)] [(.int .i64 0), (.int .i64 0)] H33 (by kernel_rfl) rfl (all_c rfl (all_c rfl all_n)) ⟨rfl, Nat.le_of_ble_eq_true (by kernel_rfl), rfl⟩ ?_
          refine t_done [(.int .i64 rings0), (.agg [(.int .i64 base1), (.int .i64 base2)]), (.int .i64 need3), (.int .i64 perMille4), events5, e45, (.agg [(.int .i64 0), (.int .i64 0)]), (.bool ((decide (rings0 < 1)) || (decide (rings0 > 5)))), (.agg [(.int .i64 base1), (.int .i64 base2)]), (.agg [(.int .i64 r9), (.int .i64 r10)]), (.bool (!(((r9) == 0) && (((r10) == 0) && true)))), (.bool (decide ((len14 : Int) > 40))), (.int .i64 v27), (.int .i64 (len20 : Int)), (.bool (decide (v27 < (len20 : Int)))), events5, d29, (.ptr b17 0), d30, d31, d32] H33 (by kernel_rfl) ?_
          refine then_norm ?_
          refine w_ret ?_
          exact body_ret (vs := [e45, (.agg [(.int .i64 0), (.int .i64 0)])]) _ (by kernel_rfl) rfl h

def rf_rollout_Versions (nrollout_Run nrollout_last : Nat) : RFunc := ⟨5, 18, [.var 5, .part 6 (some 2)],
 ((.seq (.ops [⟨.tomb 1 (.var 1), none, (some 7), true⟩, ⟨.move (.k (.empty)), none, (some 5), true⟩, ⟨.tomb 1 (.k (.agg [.int .i64 0, .int .i64 0])), none, (some 6), true⟩])
 ((.seq (.ops [⟨.move (.var 0), none, none, true⟩, ⟨.field 0 (some 2) (.var 7), none, none, true⟩, ⟨.move (.var 2), none, none, true⟩, ⟨.move (.var 3), none, none, true⟩, ⟨.move (.var 4), none, none, true⟩, ⟨.callS nrollout_Run [(.loc 0), (.loc 1), (.loc 2), (.loc 3), (.loc 4)], none, none, true⟩, ⟨.move (.loc 5), none, none, true⟩, ⟨.extract (.loc 6) 0, none, none, true⟩, ⟨.extract (.loc 6) 1, none, none, true⟩, ⟨.tomb 1 (.k (.agg [.int .i64 0, .int .i64 0])), none, (some 17), true⟩, ⟨.move (.loc 7), none, (some 8), true⟩, ⟨.upd 2 0 (.loc 9) (.loc 8), none, (some 17), true⟩])
 ((.seq (.ops [⟨.move (.k (.empty)), none, (some 16), true⟩])
 ((.seq ((.seq (.ops [⟨.move (.var 8), none, (some 12), true⟩, ⟨.len (.loc 0), none, (some 10), true⟩, ⟨.move (.k (.int .i64 0)), none, (some 9), true⟩])
 (.block 0 (.loop ((.seq (.ops [⟨.bin .lss .no (.var 9) (.var 10), none, (some 11), true⟩])
 ((.seq (.cond (.var 11) (.skip) (.exit 0))
 ((.seq (.block 1 ((.seq (.ops [⟨.indexAddr 4 (.var 12) (.var 9), none, none, true⟩, ⟨.load (some 4) (.loc 0), none, none, true⟩, ⟨.tomb 1 (.k (.agg [.empty, .int .i64 0, .int .i64 0, .int .i64 0])), none, (some 13), true⟩, ⟨.upd 4 0 (.loc 2) (.loc 1), none, (some 13), true⟩])
 ((.seq (.ops [⟨.field 0 none (.var 13), none, none, true⟩, ⟨.field 1 none (.var 13), none, none, true⟩, ⟨.move (.loc 1), none, (some 14), true⟩])
 ((.seq ((.seq (.ops [⟨.move (.var 14), none, none, true⟩, ⟨.bin .eql .no (.loc 0) (.k (.int .i64 0)), none, (some 15), true⟩])
 (.cond (.var 15) (.ops [⟨.field 0 (some 4) (.var 13), none, none, true⟩, ⟨.callS nrollout_last [(.loc 0)], none, none, true⟩, ⟨.move (.loc 1), none, (some 14), true⟩]) (.skip))))
 (.ops [⟨.move (.var 16), none, none, true⟩, ⟨.move (.var 14), none, none, true⟩, ⟨.buildSlice 1 [.int .i64 0] [(0, 1, (.loc 1))] 1, none, none, true⟩, ⟨.append 1 8 (.loc 0) (.loc 2), none, none, true⟩, ⟨.move (.loc 3), none, (some 16), true⟩]))))))))
 (.ops [⟨.bin .add .no (.var 9) (.k (.int .i64 1)), none, none, true⟩, ⟨.move (.loc 0), none, (some 9), true⟩])))))))))))
 ((.seq (.ops [⟨.move (.var 16), none, none, false⟩, ⟨.field 0 (some 2) (.var 17), none, none, true⟩, ⟨.move (.loc 0), none, (some 5), false⟩, ⟨.upd 2 0 (.var 6) (.loc 1), none, (some 6), true⟩])
 (.ret)))))))))))⟩
theorem v_rollout_Versions {F : Nat → Option RFunc} {me nrollout_Run nrollout_last : Nat} (hF : F me = some (rf_rollout_Versions nrollout_Run nrollout_last)) {fl : Nat} {H : Heap} {Q : AV → Heap → Prop} (rings0 : Int) (base1 : Int) (base2 : Int) (need3 : Int) (perMille4 : Int) (events5 : AV)
  (h : ∀ (H6 : Heap), Dead1 H 1 H6 → ∀ (H7 : Heap), Dead1 H6 1 H7 → Ret F fl nrollout_Run [(.int .i64 rings0), (.agg [(.int .i64 base1), (.int .i64 base2)]), (.int .i64 need3), (.int .i64 perMille4), events5] H7 (fun v12 H11 => ∃ (r8 : AV) (r9 : Int) (r10 : Int), v12 = (.tuple [r8, (.agg [(.int .i64 r9), (.int .i64 r10)])]) ∧ ∀ (H13 : Heap), Dead1 H11 1 H13 → ∃ len14 : Nat, lenA r8 = some len14 ∧ ∃ (J15 : Nat → Int → AV → Heap → Prop) (k16 : Nat), J15 k16 0 .empty H13 ∧ (∀ (m17 : Nat) (v18 : Int) (out23 : AV) (H24 : Heap), J15 m17 v18 out23 H24 → ((v18 < (len14 : Int)) → ∃ (e25 : AV) (e26 : Int) (e27 : Int) (e28 : Int), getA H24 4 (some 4) r8 v18 0 = some (.agg [e25, (.int .i64 e26), (.int .i64 e27), (.int .i64 e28)]) ∧ ∀ (H30 : Heap), Dead1 H24 1 H30 → Scal e25 ∧ ((e26 = 0) → Ret F fl nrollout_last [(.agg [e25, (.int .i64 e26), (.int .i64 e27), (.int .i64 e28)])] H30 (fun v34 H33 => ∃ (r32 : Int), v34 = (.int .i64 r32) ∧ ∀ (b35 : Nat) (H36 : Heap), NewB H33 1 [(.int .i64 r32)] b35 H36 → ∃ (a37 : AV) (H38 : Heap), appA fl true 1 8 H36 out23 (.slice b35 0 1 (some 1)) = some (a37, H38) ∧ ∃ m39 : Nat, m39 < m17 ∧ J15 m39 (IntKind.wrap .i64 (v18 + 1)) a37 H38)) ∧ (¬(e26 = 0) → ∀ (b40 : Nat) (H41 : Heap), NewB H30 1 [(.int .i64 e26)] b40 H41 → ∃ (a42 : AV) (H43 : Heap), appA fl true 1 8 H41 out23 (.slice b40 0 1 (some 1)) = some (a42, H43) ∧ ∃ m44 : Nat, m44 < m17 ∧ J15 m44 (IntKind.wrap .i64 (v18 + 1)) a42 H43)) ∧ (¬(v18 < (len14 : Int)) → Q (.tuple [out23, (.agg [(.int .i64 r9), (.int .i64 r10)])]) H24)))) : Ret F fl me [(.int .i64 rings0), (.agg [(.int .i64 base1), (.int .i64 base2)]), (.int .i64 need3), (.int .i64 perMille4), events5] H Q := by
  refine ret_intro hF rfl ?_
  refine w_seq ?_
  refine w_run [1, 0, 1] ?_
  obtain ⟨H6, hb⟩ : ∃ H', Dead1 H 1 H' := ⟨_, ⟨rfl⟩⟩
  replace h := h H6 hb
  refine t_tomb true 1 (.agg [(.int .i64 base1), (.int .i64 base2)]) [(.int .i64 base1), (.int .i64 base2)] H6 H (by kernel_rfl) rfl hb ?_
  obtain ⟨H7, hb⟩ : ∃ H', Dead1 H6 1 H' := ⟨_, ⟨rfl⟩⟩
  replace h := h H7 hb
  refine t_tomb true 1 (.agg [(.int .i64 0), (.int .i64 0)]) [(.int .i64 0), (.int .i64 0)] H7 H6 (by kernel_rfl) rfl hb ?_
  refine t_done [(.int .i64 rings0), (.agg [(.int .i64 base1), (.int .i64 base2)]), (.int .i64 need3), (.int .i64 perMille4), events5, .empty, (.agg [(.int .i64 0), (.int .i64 0)]), (.agg [(.int .i64 base1), (.int .i64 base2)]), .undef, .undef, .undef, .undef, .undef, .undef, .undef, .undef, .undef, .undef] H7 (by kernel_rfl) ?_
  refine then_norm ?_
  refine w_seq ?_
  refine w_run [0, 0, 0, 0, 0, 1, 0, 0, 0, 1, 0, 1] ?_
  refine t_call true nrollout_Run [(.int .i64 rings0), (.agg [(.int .i64 base1), (.int .i64 base2)]), (.int .i64 need3), (.int .i64 perMille4), events5] H7 (by kernel_rfl) h ?_
  clear h
  rintro _ H11 ⟨r8, r9, r10, rfl, h⟩
  obtain ⟨H13, hb⟩ : ∃ H', Dead1 H11 1 H' := ⟨_, ⟨rfl⟩⟩
  replace h := h H13 hb
  refine t_tomb true 1 (.agg [(.int .i64 0), (.int .i64 0)]) [(.int .i64 0), (.int .i64 0)] H13 H11 (by kernel_rfl) rfl hb ?_
  refine t_upd true 2 0 [(.int .i64 0), (.int .i64 0)] (.agg [(.int .i64 r9), (.int .i64 r10)]) [(.int .i64 r9), (.int .i64 r10)] [(.int .i64 r9), (.int .i64 r10)] H13 (by kernel_rfl) rfl (all_c rfl (all_c rfl all_n)) ⟨rfl, Nat.le_of_ble_eq_true (by kernel_rfl), rfl⟩ ?_
  refine t_done [(.int .i64 rings0), (.agg [(.int .i64 base1), (.int .i64 base2)]), (.int .i64 need3), (.int .i64 perMille4), events5, .empty, (.agg [(.int .i64 0), (.int .i64 0)]), (.agg [(.int .i64 base1), (.int .i64 base2)]), r8, .undef, .undef, .undef, .undef, .undef, .undef, .undef, .undef, (.agg [(.int .i64 r9), (.int .i64 r10)])] H13 (by kernel_rfl) ?_
  refine then_norm ?_
  refine w_seq ?_
  refine w_run [0] ?_
  refine t_done [(.int .i64 rings0), (.agg [(.int .i64 base1), (.int .i64 base2)]), (.int .i64 need3), (.int .i64 perMille4), events5, .empty, (.agg [(.int .i64 0), (.int .i64 0)]), (.agg [(.int .i64 base1), (.int .i64 base2)]), r8, .undef, .undef, .undef, .undef, .undef, .undef, .undef, .empty, (.agg [(.int .i64 r9), (.int .i64 r10)])] H13 (by kernel_rfl) ?_
  refine then_norm ?_
  refine w_seq ?_
  refine w_seq ?_
  refine w_run [0, 1, 0] ?_
  obtain ⟨len14, hl, h⟩ := h
  refine t_len true r8 len14 H13 (by kernel_rfl) hl ?_
  refine t_done [(.int .i64 rings0), (.agg [(.int .i64 base1), (.int .i64 base2)]), (.int .i64 need3), (.int .i64 perMille4), events5, .empty, (.agg [(.int .i64 0), (.int .i64 0)]), (.agg [(.int .i64 base1), (.int .i64 base2)]), r8, (.int .i64 0), (.int .i64 (len14 : Int)), .undef, r8, .undef, .undef, .undef, .empty, (.agg [(.int .i64 r9), (.int .i64 r10)])] H13 (by kernel_rfl) ?_
  refine then_norm ?_
  refine w_block ?_
  obtain ⟨J15, k16, h0, h⟩ := h
  refine w_loop (I := fun mI EI HI => ∃ (v18 : Int) (d19 : AV) (d20 : AV) (d21 : AV) (d22 : AV) (out23 : AV), EI = [(.int .i64 rings0), (.agg [(.int .i64 base1), (.int .i64 base2)]), (.int .i64 need3), (.int .i64 perMille4), events5, .empty, (.agg [(.int .i64 0), (.int .i64 0)]), (.agg [(.int .i64 base1), (.int .i64 base2)]), r8, (.int .i64 v18), (.int .i64 (len14 : Int)), d19, r8, d20, d21, d22, out23, (.agg [(.int .i64 r9), (.int .i64 r10)])] ∧ J15 mI v18 out23 HI) ?_ k16 ⟨_, _, _, _, _, _, rfl, h0⟩
  clear h0
  rintro m17 EI H24 ⟨v18, d19, d20, d21, d22, out23, rfl, hJ⟩
  replace h := h m17 v18 out23 H24 hJ
  clear hJ
  refine w_seq ?_
  refine w_run [0] ?_
  refine t_done [(.int .i64 rings0), (.agg [(.int .i64 base1), (.int .i64 base2)]), (.int .i64 need3), (.int .i64 perMille4), events5, .empty, (.agg [(.int .i64 0), (.int .i64 0)]), (.agg [(.int .i64 base1), (.int .i64 base2)]), r8, (.int .i64 v18), (.int .i64 (len14 : Int)), (.bool (decide (v18 < (len14 : Int)))), r8, d20, d21, d22, out23, (.agg [(.int .i64 r9), (.int .i64 r10)])] H24 (by kernel_rfl) ?_
  refine then_norm ?_
  refine w_seq ?_
  refine w_cond (t := (decide (v18 < (len14 : Int)))) rfl (fun hc => ?_) (fun hc => ?_)
  · replace h := h.1 (is_dec.t hc)
    refine w_skip ?_
    refine then_norm ?_
    refine w_seq ?_
    refine w_block ?_
    refine w_seq ?_
    refine w_run [1, 1, 1, 1] ?_
    obtain ⟨e25, e26, e27, e28, hg29, h⟩ := h
    refine t_idxG true 4 r8 .i64 v18 H24 (by kernel_rfl) hg29 ?_
    refine t_loadG true (some 4) 4 r8 v18 0 (.agg [e25, (.int .i64 e26), (.int .i64 e27), (.int .i64 e28)]) H24 (by kernel_rfl) hg29 ?_
    obtain ⟨H30, hb⟩ : ∃ H', Dead1 H24 1 H' := ⟨_, ⟨rfl⟩⟩
    replace h := h H30 hb
    refine t_tomb true 1 (.agg [.empty, (.int .i64 0), (.int .i64 0), (.int .i64 0)]) [.empty, (.int .i64 0), (.int .i64 0), (.int .i64 0)] H30 H24 (by kernel_rfl) rfl hb ?_
    obtain ⟨hs31, h⟩ := h
    refine t_upd true 4 0 [.empty, (.int .i64 0), (.int .i64 0), (.int .i64 0)] (.agg [e25, (.int .i64 e26), (.int .i64 e27), (.int .i64 e28)]) [e25, (.int .i64 e26), (.int .i64 e27), (.int .i64 e28)] [e25, (.int .i64 e26), (.int .i64 e27), (.int .i64 e28)] H30 (by kernel_rfl) rfl (all_c hs31.2 (all_c rfl (all_c rfl (all_c rfl all_n)))) ⟨rfl, Nat.le_of_ble_eq_true (by kernel_rfl), rfl⟩ ?_
    refine t_done [(.int .i64 rings0), (.agg [(.int .i64 base1), (.int .i64 base2)]), (.int .i64 need3), (.int .i64 perMille4), events5, .empty, (.agg [(.int .i64 0), (.int .i64 0)]), (.agg [(.int .i64 base1), (.int .i64 base2)]), r8, (.int .i64 v18), (.int .i64 (len14 : Int)), (.bool (decide (v18 < (len14 : Int)))), r8, (.agg [e25, (.int .i64 e26), (.int .i64 e27), (.int .i64 e28)]), d21, d22, out23, (.agg [(.int .i64 r9), (.int .i64 r10)])] H30 (by kernel_rfl) ?_
    refine then_norm ?_
    refine w_seq ?_
    refine w_run [0, 0, 0] ?_
    refine t_done [(.int .i64 rings0), (.agg [(.int .i64 base1), (.int .i64 base2)]), (.int .i64 need3), (.int .i64 perMille4), events5, .empty, (.agg [(.int .i64 0), (.int .i64 0)]), (.agg [(.int .i64 base1), (.int .i64 base2)]), r8, (.int .i64 v18), (.int .i64 (len14 : Int)), (.bool (decide (v18 < (len14 : Int)))), r8, (.agg [e25, (.int .i64 e26), (.int .i64 e27), (.int .i64 e28)]), (.int .i64 e26), d22, out23, (.agg [(.int .i64 r9), (.int .i64 r10)])] H30 (by kernel_rfl) ?_
    refine then_norm ?_
    refine w_seq ?_
    refine w_seq ?_
    refine w_run [0, 0] ?_
    refine t_done [(.int .i64 rings0), (.agg [(.int .i64 base1), (.int .i64 base2)]), (.int .i64 need3), (.int .i64 perMille4), events5, .empty, (.agg [(.int .i64 0), (.int .i64 0)]), (.agg [(.int .i64 base1), (.int .i64 base2)]), r8, (.int .i64 v18), (.int .i64 (len14 : Int)), (.bool (decide (v18 < (len14 : Int)))), r8, (.agg [e25, (.int .i64 e26), (.int .i64 e27), (.int .i64 e28)]), (.int .i64 e26), (.bool ((e26) == 0)), out23, (.agg [(.int .i64 r9), (.int .i64 r10)])] H30 (by kernel_rfl) ?_
    refine then_norm ?_
    refine w_cond (t := ((e26) == 0)) rfl (fun hc => ?_) (fun hc => ?_)
    · replace h := h.1 (is_eq.t hc)
      refine w_run [0, 1, 0] ?_
      refine t_call true nrollout_last [(.agg [e25, (.int .i64 e26), (.int .i64 e27), (.int .i64 e28)])] H30 (by kernel_rfl) h ?_
      clear h
      rintro _ H33 ⟨r32, rfl, h⟩
      refine t_done [(.int .i64 rings0), (.agg [(.int .i64 base1), (.int .i64 base2)]), (.int .i64 need3), (.int .i64 perMille4), events5, .empty, (.agg [(.int .i64 0), (.int .i64 0)]), (.agg [(.int .i64 base1), (.int .i64 base2)]), r8, (.int .i64 v18), (.int .i64 (len14 : Int)), (.bool (decide (v18 < (len14 : Int)))), r8, (.agg [e25, (.int .i64 e26), (.int .i64 e27), (.int .i64 e28)]), (.int .i64 r32), (.bool ((e26) == 0)), out23, (.agg [(.int .i64 r9), (.int .i64 r10)])] H33 (by kernel_rfl) ?_
      refine then_norm ?_
      refine w_run [0, 0, 1, 1, 0] ?_
      obtain ⟨b35, H36, hb⟩ : ∃ b H', NewB H33 1 [(.int .i64 r32)] b H' := ⟨_, _, rfl, rfl⟩
      replace h := h b35 H36 hb
      refine t_bs true 1 [(.int .i64 0)] [(0, 1, .loc 0)] 1 [(.int .i64 r32)] [(.int .i64 r32)] b35 H36 H33 (by kernel_rfl) (fill_c (vs := [(.int .i64 r32)]) (size := 1) rfl (by kernel_rfl) (by kernel_rfl) (by kernel_rfl)) hb ?_
      obtain ⟨a37, H38, ha, h⟩ := h
      refine t_app true 1 8 out23 (.slice b35 0 1 (some 1)) a37 H38 H36 (by kernel_rfl) ha ?_
      refine t_done [(.int .i64 rings0), (.agg [(.int .i64 base1), (.int .i64 base2)]), (.int .i64 need3), (.int .i64 perMille4), events5, .empty, (.agg [(.int .i64 0), (.int .i64 0)]), (.agg [(.int .i64 base1), (.int .i64 base2)]), r8, (.int .i64 v18), (.int .i64 (len14 : Int)), (.bool (decide (v18 < (len14 : Int)))), r8, (.agg [e25, (.int .i64 e26), (.int .i64 e27), (.int .i64 e28)]), (.int .i64 r32), (.bool ((e26) == 0)), a37, (.agg [(.int .i64 r9), (.int .i64 r10)])] H38 (by kernel_rfl) ?_
      refine block_norm ?_
      refine then_norm ?_
      refine w_run [0, 0] ?_
      refine t_done [(.int .i64 rings0), (.agg [(.int .i64 base1), (.int .i64 base2)]), (.int .i64 need3), (.int .i64 perMille4), events5, .empty, (.agg [(.int .i64 0), (.int .i64 0)]), (.agg [(.int .i64 base1), (.int .i64 base2)]), r8, (.int .i64 (IntKind.wrap .i64 (v18 + 1))), (.int .i64 (len14 : Int)), (.bool (decide (v18 < (len14 : Int)))), r8, (.agg [e25, (.int .i64 e26), (.int .i64 e27), (.int .i64 e28)]), (.int .i64 r32), (.bool ((e26) == 0)), a37, (.agg [(.int .i64 r9), (.int .i64 r10)])] H38 (by kernel_rfl) ?_
      obtain ⟨m', hm, h⟩ := h
      refine loop_norm ⟨m', hm, _, _, _, _, _, _, rfl, h⟩
    · replace h := h.2 (is_eq.f hc)
      refine w_skip ?_
      refine then_norm ?_
      refine w_run [0, 0, 1, 1, 0] ?_
      obtain ⟨b40, H41, hb⟩ : ∃ b H', NewB H30 1 [(.int .i64 e26)] b H' := ⟨_, _, rfl, rfl⟩
      replace h := h b40 H41 hb
      refine t_bs true 1 [(.int .i64 0)] [(0, 1, .loc 0)] 1 [(.int .i64 e26)] [(.int .i64 e26)] b40 H41 H30 (by kernel_rfl) (fill_c (vs := [(.int .i64 e26)]) (size := 1) rfl (by kernel_rfl) (by kernel_rfl) (by kernel_rfl)) hb ?_
      obtain ⟨a42, H43, ha, h⟩ := h
      refine t_app true 1 8 out23 (.slice b40 0 1 (some 1)) a42 H43 H41 (by kernel_rfl) ha ?_
      refine t_done [(.int .i64 rings0), (.agg [(.int .i64 base1), (.int .i64 base2)]), (.int .i64 need3), (.int .i64 perMille4), events5, .empty, (.agg [(.int .i64 0), (.int .i64 0)]), (.agg [(.int .i64 base1), (.int .i64 base2)]), r8, (.int .i64 v18), (.int .i64 (len14 : Int)), (.bool (decide (v18 < (len14 : Int)))), r8, (.agg [e25, (.int .i64 e26), (.int .i64 e27), (.int .i64 e28)]), (.int .i64 e26), (.bool ((e26) == 0)), a42, (.agg [(.int .i64 r9), (.int .i64 r10)])] H43 (by kernel_rfl) ?_
      refine block_norm ?_
      refine then_norm ?_
      refine w_run [0, 0] ?_
      refine t_done [(.int .i64 rings0), (.agg [(.int .i64 base1), (.int .i64 base2)]), (.int .i64 need3), (.int .i64 perMille4), events5, .empty, (.agg [(.int .i64 0), (.int .i64 0)]), (.agg [(.int .i64 base1), (.int .i64 base2)]), r8, (.int .i64 (IntKind.wrap .i64 (v18 + 1))), (.int .i64 (len14 : Int)), (.bool (decide (v18 < (len14 : Int)))), r8, (.agg [e25, (.int .i64 e26), (.int .i64 e27), (.int .i64 e28)]), (.int .i64 e26), (.bool ((e26) == 0)), a42, (.agg [(.int .i64 r9), (.int .i64 r10)])] H43 (by kernel_rfl) ?_
      obtain ⟨m', hm, h⟩ := h
      refine loop_norm ⟨m', hm, _, _, _, _, _, _, rfl, h⟩
  · replace h := h.2 (is_dec.f hc)
    refine w_exit ?_
    refine then_exit ?_
    refine loop_exit ?_
    refine block_exit ?_
    refine then_norm ?_
    refine w_seq ?_
    refine w_run [0, 0, 0, 1] ?_
    refine t_upd true 2 0 [(.int .i64 0), (.int .i64 0)] (.agg [(.int .i64 r9), (.int .i64 r10)]) [(.int .i64 r9), (.int .i64 r10)] [(.int .i64 r9), (.int .i64 r10)] H24 (by kernel_rfl) rfl (all_c rfl (all_c rfl all_n)) ⟨rfl, Nat.le_of_ble_eq_true (by kernel_rfl), rfl⟩ ?_
    refine t_done [(.int .i64 rings0), (.agg [(.int .i64 base1), (.int .i64 base2)]), (.int .i64 need3), (.int .i64 perMille4), events5, out23, (.agg [(.int .i64 r9), (.int .i64 r10)]), (.agg [(.int .i64 base1), (.int .i64 base2)]), r8, (.int .i64 v18), (.int .i64 (len14 : Int)), (.bool (decide (v18 < (len14 : Int)))), r8, d20, d21, d22, out23, (.agg [(.int .i64 r9), (.int .i64 r10)])] H24 (by kernel_rfl) ?_
    refine then_norm ?_
    refine w_ret ?_
    exact body_ret (vs := [out23, (.agg [(.int .i64 r9), (.int .i64 r10)])]) _ (by kernel_rfl) rfl h

def rf_slices_Delete__int_int : RFunc := ⟨3, 6, [.var 3],
 ((.seq (.ops [⟨.move (.k (.empty)), none, (some 3), true⟩])
 ((.seq (.ops [⟨.move (.var 0), none, none, true⟩, ⟨.move (.var 1), none, none, true⟩, ⟨.move (.var 2), none, none, true⟩, ⟨.move (.var 0), none, none, true⟩, ⟨.len (.loc 3), none, none, true⟩, ⟨.slice 1 (.loc 0) (some (.loc 1)) (some (.loc 2)) (some (.loc 4)), none, none, true⟩])
 ((.seq ((.seq (.ops [⟨.move (.var 1), none, none, true⟩, ⟨.move (.var 2), none, none, true⟩, ⟨.bin .eql .no (.loc 0) (.loc 1), none, (some 4), true⟩])
 (.cond (.var 4) ((.seq (.ops [⟨.move (.var 0), none, none, true⟩, ⟨.move (.loc 0), none, (some 3), true⟩])
 (.ret))) (.skip))))
 ((.seq (.ops [⟨.move (.var 0), none, none, true⟩, ⟨.len (.loc 0), none, none, true⟩, ⟨.move (.loc 1), none, (some 5), true⟩])
 ((.seq (.ops [⟨.move (.var 0), none, none, true⟩, ⟨.move (.var 1), none, none, true⟩, ⟨.slice 1 (.loc 0) none (some (.loc 1)) none, none, none, true⟩, ⟨.move (.var 0), none, none, true⟩, ⟨.move (.var 2), none, none, true⟩, ⟨.slice 1 (.loc 3) (some (.loc 4)) none none, none, none, true⟩, ⟨.append 1 8 (.loc 2) (.loc 5), none, none, true⟩, ⟨.move (.loc 6), none, (some 0), true⟩])
 ((.seq (.ops [⟨.move (.var 0), none, none, true⟩, ⟨.move (.var 0), none, none, true⟩, ⟨.len (.loc 1), none, none, true⟩, ⟨.move (.var 5), none, none, true⟩, ⟨.slice 1 (.loc 0) (some (.loc 2)) (some (.loc 3)) none, none, none, true⟩, ⟨.clear 1 [.int .i64 0] (.loc 4), none, none, true⟩])
 ((.seq (.ops [⟨.move (.var 0), none, none, true⟩, ⟨.move (.loc 0), none, (some 3), true⟩])
 (.ret)))))))))))))))⟩
theorem v_slices_Delete__int_int {F : Nat → Option RFunc} {me : Nat} (hF : F me = some (rf_slices_Delete__int_int )) {fl : Nat} {H : Heap} {Q : AV → Heap → Prop} (s0 : AV) (i1 : Int) (j2 : Int)
  (h : ∃ len3 : Nat, lenA s0 = some len3 ∧ ∃ s4 : AV, rslice H 1 s0 (some (.int .i64 i1)) (some (.int .i64 j2)) (some (.int .i64 (len3 : Int))) = some s4 ∧ ((i1 = j2) → Q s0 H) ∧ (¬(i1 = j2) → ∃ len5 : Nat, lenA s0 = some len5 ∧ ∃ s6 : AV, rslice H 1 s0 none (some (.int .i64 i1)) none = some s6 ∧ ∃ s7 : AV, rslice H 1 s0 (some (.int .i64 j2)) none none = some s7 ∧ ∃ (a8 : AV) (H9 : Heap), appA fl true 1 8 H s6 s7 = some (a8, H9) ∧ ∃ len10 : Nat, lenA a8 = some len10 ∧ ∃ s11 : AV, rslice H9 1 a8 (some (.int .i64 (len10 : Int))) (some (.int .i64 (len5 : Int))) none = some s11 ∧ ∃ (H12 : Heap), clearA fl 1 [(.int .i64 0)] H9 s11 = some (.undef, H12) ∧ Q a8 H12)) : Ret F fl me [s0, (.int .i64 i1), (.int .i64 j2)] H Q := by
  refine ret_intro hF rfl ?_
  refine w_seq ?_
  refine w_run [0] ?_
  refine t_done [s0, (.int .i64 i1), (.int .i64 j2), .empty, .undef, .undef] H (by kernel_rfl) ?_
  refine then_norm ?_
  refine w_seq ?_
  refine w_run [0, 0, 0, 0, 1, 1] ?_
  obtain ⟨len3, hl, h⟩ := h
  refine t_len true s0 len3 H (by kernel_rfl) hl ?_
  obtain ⟨s4, hs, h⟩ := h
  refine t_slcLHM true 1 s0 (.int .i64 i1) (.int .i64 j2) (.int .i64 (len3 : Int)) s4 H (by kernel_rfl) hs ?_
  refine t_done [s0, (.int .i64 i1), (.int .i64 j2), .empty, .undef, .undef] H (by kernel_rfl) ?_
  refine then_norm ?_
  refine w_seq ?_
  refine w_seq ?_
  refine w_run [0, 0, 0] ?_
  refine t_done [s0, (.int .i64 i1), (.int .i64 j2), .empty, (.bool ((i1) == j2)), .undef] H (by kernel_rfl) ?_
  refine then_norm ?_
  refine w_cond (t := ((i1) == j2)) rfl (fun hc => ?_) (fun hc => ?_)
  · replace h := h.1 (is_eq.t hc)
    refine w_seq ?_
    refine w_run [0, 0] ?_
    refine t_done [s0, (.int .i64 i1), (.int .i64 j2), s0, (.bool ((i1) == j2)), .undef] H (by kernel_rfl) ?_
    refine then_norm ?_
    refine w_ret ?_
    refine then_ret ?_
    exact body_ret (vs := [s0]) _ (by kernel_rfl) rfl h
  · replace h := h.2 (is_eq.f hc)
    refine w_skip ?_
    refine then_norm ?_
    refine w_seq ?_
    refine w_run [0, 1, 0] ?_
    obtain ⟨len5, hl, h⟩ := h
    refine t_len true s0 len5 H (by kernel_rfl) hl ?_
    refine t_done [s0, (.int .i64 i1), (.int .i64 j2), .empty, (.bool ((i1) == j2)), (.int .i64 (len5 : Int))] H (by kernel_rfl) ?_
    refine then_norm ?_
    refine w_seq ?_
    refine w_run [0, 0, 1, 0, 0, 1, 1, 0] ?_
    obtain ⟨s6, hs, h⟩ := h
    refine t_slcH true 1 s0 (.int .i64 i1) s6 H (by kernel_rfl) hs ?_
    obtain ⟨s7, hs, h⟩ := h
    refine t_slcL true 1 s0 (.int .i64 j2) s7 H (by kernel_rfl) hs ?_
    obtain ⟨a8, H9, ha, h⟩ := h
    refine t_app true 1 8 s6 s7 a8 H9 H (by kernel_rfl) ha ?_
    refine t_done [a8, (.int .i64 i1), (.int .i64 j2), .empty, (.bool ((i1) == j2)), (.int .i64 (len5 : Int))] H9 (by kernel_rfl) ?_
    refine then_norm ?_
    refine w_seq ?_
    refine w_run [0, 0, 1, 0, 1, 1] ?_
    obtain ⟨len10, hl, h⟩ := h
    refine t_len true a8 len10 H9 (by kernel_rfl) hl ?_
    obtain ⟨s11, hs, h⟩ := h
    refine t_slcLH true 1 a8 (.int .i64 (len10 : Int)) (.int .i64 (len5 : Int)) s11 H9 (by kernel_rfl) hs ?_
    obtain ⟨H12, ha, h⟩ := h
    refine t_clear true 1 [(.int .i64 0)] s11 _ H12 H9 (by kernel_rfl) ha ?_
    refine t_done [a8, (.int .i64 i1), (.int .i64 j2), .empty, (.bool ((i1) == j2)), (.int .i64 (len5 : Int))] H12 (by kernel_rfl) ?_
    refine then_norm ?_
    refine w_seq ?_
    refine w_run [0, 0] ?_
    refine t_done [a8, (.int .i64 i1), (.int .i64 j2), a8, (.bool ((i1) == j2)), (.int .i64 (len5 : Int))] H12 (by kernel_rfl) ?_
    refine then_norm ?_
    refine w_ret ?_
    exact body_ret (vs := [a8]) _ (by kernel_rfl) rfl h

end Go.RM

