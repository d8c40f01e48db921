/-
  Functions of the program as the abstract machine runs them, and what must be shown of a run: printed by RmPrint.
-/
import Derived.Test.YtmiinaimpdbenaaRmVc
namespace Go.RM
set_option linter.unusedVariables false
set_option maxRecDepth 4000
-- calendar_Open
def rf_calendar_Open (ncalendar_check ncalendar_day ncalendar_Openx1 nslices_ContainsFunc__calendar_span_calendar_span : Nat) : RFunc := ⟨2, 8, [.var 2, .part 3 (some 2)],
 ((.seq (.ops [⟨.tomb 1 (.var 0), none, (some 4), true⟩, ⟨.box 1 (.var 1), none, (some 5), true⟩, ⟨.move (.k (.bool false)), none, (some 2), true⟩, ⟨.tomb 1 (.k (.agg [.int .i64 0, .int .i64 0])), none, (some 3), true⟩])
 ((.seq (.ops [⟨.field 0 (some 2) (.var 4), none, none, true⟩, ⟨.load none (.var 5), none, none, true⟩, ⟨.buildSlice 1 [.int .i64 0] [(0, 1, (.loc 1))] 1, none, none, true⟩, ⟨.callS ncalendar_check [(.loc 0), (.loc 2)], none, none, true⟩, ⟨.tomb 1 (.k (.agg [.int .i64 0, .int .i64 0])), none, (some 6), true⟩, ⟨.upd 2 0 (.loc 4) (.loc 3), none, (some 6), true⟩])
 ((.seq ((.seq (.ops [⟨.field 0 (some 2) (.var 6), none, none, true⟩, ⟨.build [.int .i64 0, .int .i64 0] [], none, none, true⟩, ⟨.bin .neq (.agg [.int, .int]) (.loc 0) (.loc 1), none, (some 7), true⟩])
 (.cond (.var 7) ((.seq (.ops [⟨.field 0 (some 2) (.var 6), none, none, true⟩, ⟨.move (.k (.bool false)), none, (some 2), false⟩, ⟨.upd 2 0 (.var 3) (.loc 0), none, (some 3), true⟩])
 (.ret))) (.skip))))
 ((.seq (.ops [⟨.field 0 (some 2) (.var 4), none, none, false⟩, ⟨.load none (.var 5), none, none, false⟩, ⟨.bin .quo .no (.loc 1) (.k (.int .i64 1440)), none, none, false⟩, ⟨.callS ncalendar_day [(.loc 0), (.loc 2)], none, none, false⟩, ⟨.makeFunc ncalendar_Openx1 [(.var 5)], none, none, false⟩, ⟨.callS nslices_ContainsFunc__calendar_span_calendar_span [(.loc 3), (.loc 4)], none, none, false⟩, ⟨.field 0 (some 2) (.var 6), none, none, false⟩, ⟨.move (.loc 5), none, (some 2), false⟩, ⟨.upd 2 0 (.var 3) (.loc 6), none, (some 3), true⟩])
 (.ret)))))))))⟩
theorem v_calendar_Open {F : Nat → Option RFunc} {me ncalendar_check ncalendar_day ncalendar_Openx1 nslices_ContainsFunc__calendar_span_calendar_span : Nat} (hF : F me = some (rf_calendar_Open ncalendar_check ncalendar_day ncalendar_Openx1 nslices_ContainsFunc__calendar_span_calendar_span)) {fl : Nat} {H : Heap} {Q : AV → Heap → Prop} (c0 : AV) (c1 : AV) (time2 : Int)
  (h : ∀ (H3 : Heap), Dead1 H 1 H3 → ∀ (b4 : Nat) (H5 : Heap), NewB H3 1 [(.int .i64 time2)] b4 H5 → ∀ (H6 : Heap), Dead1 H5 1 H6 → ∃ (e7 : Int), rload H6 none b4 0 = some (.int .i64 e7) ∧ ∀ (b8 : Nat) (H9 : Heap), NewB H6 1 [(.int .i64 e7)] b8 H9 → Ret F fl ncalendar_check [(.agg [c0, c1]), (.slice b8 0 1 (some 1))] H9 (fun v13 H12 => ∃ (r10 : Int) (r11 : Int), v13 = (.agg [(.int .i64 r10), (.int .i64 r11)]) ∧ ∀ (H14 : Heap), Dead1 H12 1 H14 → ((¬(((r10 = 0) ∧ (((r11 = 0) ∧ (True)))))) → Q (.tuple [(.bool false), (.agg [(.int .i64 r10), (.int .i64 r11)])]) H14) ∧ (¬(¬(((r10 = 0) ∧ (((r11 = 0) ∧ (True)))))) → ∃ (e15 : Int), rload H14 none b4 0 = some (.int .i64 e15) ∧ Ret F H14.length ncalendar_day [(.agg [c0, c1]), (.int .i64 (IntKind.wrap .i64 (Int.tdiv e15 1440)))] H14 (fun r16 H17 => Ret F H17.length nslices_ContainsFunc__calendar_span_calendar_span [r16, (.func ncalendar_Openx1 [(.ptr b4 0)])] H17 (fun v21 H20 => ∃ (r19 : Bool), v21 = (.bool r19) ∧ Q (.tuple [(.bool r19), (.agg [(.int .i64 r10), (.int .i64 r11)])]) H20))))) : Ret F fl me [(.agg [c0, c1]), (.int .i64 time2)] H Q := by
  refine ret_intro hF rfl ?_
  refine w_seq ?_
  refine w_run [1, 1, 0, 1] ?_
  obtain ⟨H3, hb⟩ : ∃ H', Dead1 H 1 H' := ⟨_, ⟨rfl⟩⟩
  replace h := h H3 hb
  refine t_tomb true 1 (.agg [c0, c1]) [c0, c1] H3 H (by kernel_rfl) rfl hb ?_
  obtain ⟨b4, H5, hb⟩ : ∃ b H', NewB H3 1 [(.int .i64 time2)] b H' := ⟨_, _, rfl, rfl⟩
  replace h := h b4 H5 hb
  refine t_box true 1 (.int .i64 time2) [(.int .i64 time2)] b4 H5 H3 (by kernel_rfl) rfl hb ?_
  obtain ⟨H6, hb⟩ : ∃ H', Dead1 H5 1 H' := ⟨_, ⟨rfl⟩⟩
  replace h := h H6 hb
  refine t_tomb true 1 (.agg [(.int .i64 0), (.int .i64 0)]) [(.int .i64 0), (.int .i64 0)] H6 H5 (by kernel_rfl) rfl hb ?_
  refine t_done [(.agg [c0, c1]), (.int .i64 time2), (.bool false), (.agg [(.int .i64 0), (.int .i64 0)]), (.agg [c0, c1]), (.ptr b4 0), .undef, .undef] H6 (by kernel_rfl) ?_
  refine then_norm ?_
  refine w_seq ?_
  refine w_run [0, 1, 1, 1, 1, 1] ?_
  obtain ⟨e7, hl, h⟩ := h
  refine t_load true none b4 0 (.int .i64 e7) H6 (by kernel_rfl) hl ?_
  obtain ⟨b8, H9, hb⟩ : ∃ b H', NewB H6 1 [(.int .i64 e7)] b H' := ⟨_, _, rfl, rfl⟩
  replace h := h b8 H9 hb
  refine t_bs true 1 [(.int .i64 0)] [(0, 1, .loc 0)] 1 [(.int .i64 e7)] [(.int .i64 e7)] b8 H9 H6 (by kernel_rfl) (fill_c (vs := [(.int .i64 e7)]) (size := 1) rfl (by kernel_rfl) (by kernel_rfl) (by kernel_rfl)) hb ?_
  refine t_call true ncalendar_check [(.agg [c0, c1]), (.slice b8 0 1 (some 1))] H9 (by kernel_rfl) h ?_
  clear h
  rintro _ H12 ⟨r10, r11, rfl, h⟩
  obtain ⟨H14, hb⟩ : ∃ H', Dead1 H12 1 H' := ⟨_, ⟨rfl⟩⟩
  replace h := h H14 hb
  refine t_tomb true 1 (.agg [(.int .i64 0), (.int .i64 0)]) [(.int .i64 0), (.int .i64 0)] H14 H12 (by kernel_rfl) rfl hb ?_
  refine t_upd true 2 0 [(.int .i64 0), (.int .i64 0)] (.agg [(.int .i64 r10), (.int .i64 r11)]) [(.int .i64 r10), (.int .i64 r11)] [(.int .i64 r10), (.int .i64 r11)] H14 (by kernel_rfl) rfl (all_c rfl (all_c rfl all_n)) ⟨rfl, Nat.le_of_ble_eq_true (by kernel_rfl), rfl⟩ ?_
  refine t_done [(.agg [c0, c1]), (.int .i64 time2), (.bool false), (.agg [(.int .i64 0), (.int .i64 0)]), (.agg [c0, c1]), (.ptr b4 0), (.agg [(.int .i64 r10), (.int .i64 r11)]), .undef] H14 (by kernel_rfl) ?_
  refine then_norm ?_
  refine w_seq ?_
  refine w_seq ?_
  refine w_run [0, 1, 0] ?_
  refine t_build true [(.int .i64 0), (.int .i64 0)] [] [] [(.int .i64 0), (.int .i64 0)] H14 (by kernel_rfl) (by kernel_rfl) ?_
  refine t_done [(.agg [c0, c1]), (.int .i64 time2), (.bool false), (.agg [(.int .i64 0), (.int .i64 0)]), (.agg [c0, c1]), (.ptr b4 0), (.agg [(.int .i64 r10), (.int .i64 r11)]), (.bool (!(((r10) == 0) && (((r11) == 0) && true))))] H14 (by kernel_rfl) ?_
  refine then_norm ?_
  refine w_cond (t := (!(((r10) == 0) && (((r11) == 0) && true)))) rfl (fun hc => ?_) (fun hc => ?_)
  · replace h := h.1 ((is_not (is_and is_eq (is_and is_eq is_true))).t hc)
    refine w_seq ?_
    refine w_run [0, 0, 1] ?_
    refine t_upd true 2 0 [(.int .i64 0), (.int .i64 0)] (.agg [(.int .i64 r10), (.int .i64 r11)]) [(.int .i64 r10), (.int .i64 r11)] [(.int .i64 r10), (.int .i64 r11)] H14 (by kernel_rfl) rfl (all_c rfl (all_c rfl all_n)) ⟨rfl, Nat.le_of_ble_eq_true (by kernel_rfl), rfl⟩ ?_
    refine t_done [(.agg [c0, c1]), (.int .i64 time2), (.bool false), (.agg [(.int .i64 r10), (.int .i64 r11)]), (.agg [c0, c1]), (.ptr b4 0), (.agg [(.int .i64 r10), (.int .i64 r11)]), (.bool (!(((r10) == 0) && (((r11) == 0) && true))))] H14 (by kernel_rfl) ?_
    refine then_norm ?_
    refine w_ret ?_
    refine then_ret ?_
    exact body_ret (vs := [(.bool false), (.agg [(.int .i64 r10), (.int .i64 r11)])]) _ (by kernel_rfl) rfl h
  · replace h := h.2 ((is_not (is_and is_eq (is_and is_eq is_true))).f hc)
    refine w_skip ?_
    refine then_norm ?_
    refine w_seq ?_
    refine w_run [0, 1, 1, 1, 0, 1, 0, 0, 1] ?_
    obtain ⟨e15, hl, h⟩ := h
    refine t_load false none b4 0 (.int .i64 e15) H14 (by kernel_rfl) hl ?_
    refine t_quo false .no .i64 e15 1440 H14 (by kernel_rfl) (by decide) ?_
    refine t_call false ncalendar_day [(.agg [c0, c1]), (.int .i64 (IntKind.wrap .i64 (Int.tdiv e15 1440)))] H14 (by kernel_rfl) h ?_
    clear h
    rintro r16 H17 h
    refine t_call false nslices_ContainsFunc__calendar_span_calendar_span [r16, (.func ncalendar_Openx1 [(.ptr b4 0)])] H17 (by kernel_rfl) h ?_
    clear h
    rintro _ H20 ⟨r19, rfl, h⟩
    refine t_upd true 2 0 [(.int .i64 0), (.int .i64 0)] (.agg [(.int .i64 r10), (.int .i64 r11)]) [(.int .i64 r10), (.int .i64 r11)] [(.int .i64 r10), (.int .i64 r11)] H20 (by kernel_rfl) rfl (all_c rfl (all_c rfl all_n)) ⟨rfl, Nat.le_of_ble_eq_true (by kernel_rfl), rfl⟩ ?_
    refine t_done [(.agg [c0, c1]), (.int .i64 time2), (.bool r19), (.agg [(.int .i64 r10), (.int .i64 r11)]), (.agg [c0, c1]), (.ptr b4 0), (.agg [(.int .i64 r10), (.int .i64 r11)]), (.bool (!(((r10) == 0) && (((r11) == 0) && true))))] H20 (by kernel_rfl) ?_
    refine then_norm ?_
    refine w_ret ?_
    exact body_ret (vs := [(.bool r19), (.agg [(.int .i64 r10), (.int .i64 r11)])]) _ (by kernel_rfl) rfl h

-- calendar_Next
def rf_calendar_Next (ncalendar_check ncalendar_day : Nat) : RFunc := ⟨2, 16, [.var 2, .part 3 (some 2)],
 ((.seq (.ops [⟨.tomb 1 (.var 0), none, (some 4), true⟩, ⟨.move (.k (.int .i64 0)), none, (some 2), true⟩, ⟨.tomb 1 (.k (.agg [.int .i64 0, .int .i64 0])), none, (some 3), true⟩])
 ((.seq (.ops [⟨.field 0 (some 2) (.var 4), none, none, true⟩, ⟨.move (.var 1), none, none, true⟩, ⟨.buildSlice 1 [.int .i64 0] [(0, 1, (.loc 1))] 1, none, none, true⟩, ⟨.callS ncalendar_check [(.loc 0), (.loc 2)], none, none, true⟩, ⟨.tomb 1 (.k (.agg [.int .i64 0, .int .i64 0])), none, (some 5), true⟩, ⟨.upd 2 0 (.loc 4) (.loc 3), none, (some 5), true⟩])
 ((.seq ((.seq (.ops [⟨.field 0 (some 2) (.var 5), none, none, true⟩, ⟨.build [.int .i64 0, .int .i64 0] [], none, none, true⟩, ⟨.bin .neq (.agg [.int, .int]) (.loc 0) (.loc 1), none, (some 6), true⟩])
 (.cond (.var 6) ((.seq (.ops [⟨.field 0 (some 2) (.var 5), none, none, true⟩, ⟨.move (.k (.int .i64 0)), none, (some 2), false⟩, ⟨.upd 2 0 (.var 3) (.loc 0), none, (some 3), true⟩])
 (.ret))) (.skip))))
 ((.seq ((.seq (.ops [⟨.move (.var 1), none, none, true⟩, ⟨.bin .quo .no (.loc 0) (.k (.int .i64 1440)), none, none, true⟩, ⟨.move (.loc 1), none, (some 7), true⟩])
 (.block 0 (.loop ((.seq ((.seq (.ops [⟨.move (.var 7), none, none, true⟩, ⟨.bin .mul .no (.loc 0) (.k (.int .i64 1440)), none, none, true⟩, ⟨.move (.var 1), none, none, true⟩, ⟨.bin .add .no (.loc 2) (.k (.int .i64 500000)), none, none, true⟩, ⟨.bin .leq .no (.loc 1) (.loc 3), none, (some 8), true⟩])
 (.cond (.var 8) (.skip) (.exit 0))))
 ((.seq (.block 1 ((.seq (.ops [⟨.field 0 (some 2) (.var 4), none, none, true⟩, ⟨.move (.var 7), none, none, true⟩, ⟨.callS ncalendar_day [(.loc 0), (.loc 1)], none, (some 12), true⟩, ⟨.len (.loc 2), none, (some 10), true⟩, ⟨.move (.k (.int .i64 0)), none, (some 9), true⟩])
 (.block 2 (.loop ((.seq (.ops [⟨.bin .lss .no (.var 9) (.var 10), none, (some 11), true⟩])
 ((.seq (.cond (.var 11) (.skip) (.exit 2))
 ((.seq (.block 3 ((.seq (.ops [⟨.indexAddr 2 (.var 12) (.var 9), none, none, true⟩, ⟨.load (some 2) (.loc 0), none, none, true⟩, ⟨.tomb 1 (.k (.agg [.int .i64 0, .int .i64 0])), none, (some 13), true⟩, ⟨.upd 2 0 (.loc 2) (.loc 1), none, (some 13), true⟩])
 ((.seq (.ops [⟨.field 0 none (.var 13), none, none, true⟩, ⟨.field 0 none (.var 13), none, none, true⟩, ⟨.move (.var 1), none, none, true⟩, ⟨.max (.loc 1) [(.loc 2)], none, none, true⟩, ⟨.move (.loc 3), none, (some 14), true⟩])
 ((.seq (.ops [⟨.move (.var 14), none, none, true⟩, ⟨.field 0 none (.var 13), none, none, true⟩, ⟨.field 1 none (.var 13), none, none, true⟩, ⟨.bin .lss .no (.loc 0) (.loc 2), none, none, true⟩, ⟨.move (.loc 3), none, none, true⟩, ⟨.move (.var 14), none, none, true⟩, ⟨.move (.var 1), none, none, true⟩, ⟨.bin .add .no (.loc 6) (.k (.int .i64 500000)), none, none, true⟩, ⟨.bin .leq .no (.loc 5) (.loc 7), none, none, true⟩, ⟨.pick (.loc 4) (.loc 8) (.k (.bool false)), none, (some 15), true⟩])
 (.cond (.var 15) ((.seq (.ops [⟨.move (.var 14), none, none, false⟩, ⟨.field 0 (some 2) (.var 5), none, none, true⟩, ⟨.move (.loc 0), none, (some 2), false⟩, ⟨.upd 2 0 (.var 3) (.loc 1), none, (some 3), true⟩])
 (.ret))) (.skip)))))))))
 (.ops [⟨.bin .add .no (.var 9) (.k (.int .i64 1)), none, none, true⟩, ⟨.move (.loc 0), none, (some 9), true⟩]))))))))))))
 (.ops [⟨.move (.var 7), none, none, true⟩, ⟨.bin .add .no (.loc 0) (.k (.int .i64 1)), none, none, true⟩, ⟨.move (.loc 1), none, (some 7), true⟩])))))))))
 ((.seq (.ops [⟨.build [.int .i64 0, .int .i64 0] [(0, 1, (.k (.int .i64 6))), (1, 1, (.k (.int .i64 (-21))))], none, none, true⟩, ⟨.move (.k (.int .i64 0)), none, (some 2), true⟩, ⟨.upd 2 0 (.var 3) (.loc 0), none, (some 3), true⟩])
 (.ret)))))))))))⟩
theorem v_calendar_Next {F : Nat → Option RFunc} {me ncalendar_check ncalendar_day : Nat} (hF : F me = some (rf_calendar_Next ncalendar_check ncalendar_day)) {fl : Nat} {H : Heap} {Q : AV → Heap → Prop} (c0 : AV) (c1 : AV) (time2 : Int)
  (h : ∀ (H3 : Heap), Dead1 H 1 H3 → ∀ (H4 : Heap), Dead1 H3 1 H4 → ∀ (b5 : Nat) (H6 : Heap), NewB H4 1 [(.int .i64 time2)] b5 H6 → Ret F fl ncalendar_check [(.agg [c0, c1]), (.slice b5 0 1 (some 1))] H6 (fun v10 H9 => ∃ (r7 : Int) (r8 : Int), v10 = (.agg [(.int .i64 r7), (.int .i64 r8)]) ∧ ∀ (H11 : Heap), Dead1 H9 1 H11 → ((¬(((r7 = 0) ∧ (((r8 = 0) ∧ (True)))))) → Q (.tuple [(.int .i64 0), (.agg [(.int .i64 r7), (.int .i64 r8)])]) H11) ∧ (¬(¬(((r7 = 0) ∧ (((r8 = 0) ∧ (True)))))) → ∃ (J12 : Nat → Int → Int → Int → Heap → Prop) (k13 : Nat), J12 k13 0 0 (IntKind.wrap .i64 (Int.tdiv time2 1440)) H11 ∧ (∀ (m14 : Nat) (v16 : Int) (v17 : Int) (d18 : Int) (H27 : Heap), J12 m14 v16 v17 d18 H27 → (((IntKind.wrap .i64 (d18 * 1440)) ≤ (IntKind.wrap .i64 (time2 + 500000))) → Ret F fl ncalendar_day [(.agg [c0, c1]), (.int .i64 d18)] H27 (fun r28 H29 => ∃ len31 : Nat, lenA r28 = some len31 ∧ ∃ (J32 : Nat → Int → Int → Int → Heap → Prop) (k33 : Nat), J32 k33 v16 v17 0 H29 ∧ (∀ (m34 : Nat) (v36 : Int) (v37 : Int) (v38 : Int) (H43 : Heap), J32 m34 v36 v37 v38 H43 → ((v38 < (len31 : Int)) → ∃ (e44 : Int) (e45 : Int), getA H43 2 (some 2) r28 v38 0 = some (.agg [(.int .i64 e44), (.int .i64 e45)]) ∧ ∀ (H47 : Heap), Dead1 H43 1 H47 → (((((imax e44 time2) < e45) ∧ ((imax e44 time2) ≤ (IntKind.wrap .i64 (time2 + 500000))))) → Q (.tuple [(.int .i64 (imax e44 time2)), (.agg [(.int .i64 r7), (.int .i64 r8)])]) H47) ∧ (¬((((imax e44 time2) < e45) ∧ ((imax e44 time2) ≤ (IntKind.wrap .i64 (time2 + 500000))))) → ∃ m48 : Nat, m48 < m34 ∧ J32 m48 v36 v37 (IntKind.wrap .i64 (v38 + 1)) H47)) ∧ (¬(v38 < (len31 : Int)) → ∃ m49 : Nat, m49 < m14 ∧ J12 m49 v36 v37 (IntKind.wrap .i64 (d18 + 1)) H43)))) ∧ (¬((IntKind.wrap .i64 (d18 * 1440)) ≤ (IntKind.wrap .i64 (time2 + 500000))) → Q (.tuple [(.int .i64 0), (.agg [(.int .i64 6), (.int .i64 (-21))])]) H27))))) : Ret F fl me [(.agg [c0, c1]), (.int .i64 time2)] H Q := by
  refine ret_intro hF rfl ?_
  refine w_seq ?_
  refine w_run [1, 0, 1] ?_
  obtain ⟨H3, hb⟩ : ∃ H', Dead1 H 1 H' := ⟨_, ⟨rfl⟩⟩
  replace h := h H3 hb
  refine t_tomb true 1 (.agg [c0, c1]) [c0, c1] H3 H (by kernel_rfl) rfl hb ?_
  obtain ⟨H4, hb⟩ : ∃ H', Dead1 H3 1 H' := ⟨_, ⟨rfl⟩⟩
  replace h := h H4 hb
  refine t_tomb true 1 (.agg [(.int .i64 0), (.int .i64 0)]) [(.int .i64 0), (.int .i64 0)] H4 H3 (by kernel_rfl) rfl hb ?_
  refine t_done [(.agg [c0, c1]), (.int .i64 time2), (.int .i64 0), (.agg [(.int .i64 0), (.int .i64 0)]), (.agg [c0, c1]), .undef, .undef, .undef, .undef, .undef, .undef, .undef, .undef, .undef, .undef, .undef] H4 (by kernel_rfl) ?_
  refine then_norm ?_
  refine w_seq ?_
  refine w_run [0, 0, 1, 1, 1, 1] ?_
  obtain ⟨b5, H6, hb⟩ : ∃ b H', NewB H4 1 [(.int .i64 time2)] b H' := ⟨_, _, rfl, rfl⟩
  replace h := h b5 H6 hb
  refine t_bs true 1 [(.int .i64 0)] [(0, 1, .loc 0)] 1 [(.int .i64 time2)] [(.int .i64 time2)] b5 H6 H4 (by kernel_rfl) (fill_c (vs := [(.int .i64 time2)]) (size := 1) rfl (by kernel_rfl) (by kernel_rfl) (by kernel_rfl)) hb ?_
  refine t_call true ncalendar_check [(.agg [c0, c1]), (.slice b5 0 1 (some 1))] H6 (by kernel_rfl) h ?_
  clear h
  rintro _ H9 ⟨r7, r8, rfl, h⟩
  obtain ⟨H11, hb⟩ : ∃ H', Dead1 H9 1 H' := ⟨_, ⟨rfl⟩⟩
  replace h := h H11 hb
  refine t_tomb true 1 (.agg [(.int .i64 0), (.int .i64 0)]) [(.int .i64 0), (.int .i64 0)] H11 H9 (by kernel_rfl) rfl hb ?_
  refine t_upd true 2 0 [(.int .i64 0), (.int .i64 0)] (.agg [(.int .i64 r7), (.int .i64 r8)]) [(.int .i64 r7), (.int .i64 r8)] [(.int .i64 r7), (.int .i64 r8)] H11 (by kernel_rfl) rfl (all_c rfl (all_c rfl all_n)) ⟨rfl, Nat.le_of_ble_eq_true (by kernel_rfl), rfl⟩ ?_
  refine t_done [(.agg [c0, c1]), (.int .i64 time2), (.int .i64 0), (.agg [(.int .i64 0), (.int .i64 0)]), (.agg [c0, c1]), (.agg [(.int .i64 r7), (.int .i64 r8)]), .undef, .undef, .undef, .undef, .undef, .undef, .undef, .undef, .undef, .undef] H11 (by kernel_rfl) ?_
  refine then_norm ?_
  refine w_seq ?_
  refine w_seq ?_
  refine w_run [0, 1, 0] ?_
  refine t_build true [(.int .i64 0), (.int .i64 0)] [] [] [(.int .i64 0), (.int .i64 0)] H11 (by kernel_rfl) (by kernel_rfl) ?_
  refine t_done [(.agg [c0, c1]), (.int .i64 time2), (.int .i64 0), (.agg [(.int .i64 0), (.int .i64 0)]), (.agg [c0, c1]), (.agg [(.int .i64 r7), (.int .i64 r8)]), (.bool (!(((r7) == 0) && (((r8) == 0) && true)))), .undef, .undef, .undef, .undef, .undef, .undef, .undef, .undef, .undef] H11 (by kernel_rfl) ?_
  refine then_norm ?_
  refine w_cond (t := (!(((r7) == 0) && (((r8) == 0) && true)))) rfl (fun hc => ?_) (fun hc => ?_)
  · replace h := h.1 ((is_not (is_and is_eq (is_and is_eq is_true))).t hc)
    refine w_seq ?_
    refine w_run [0, 0, 1] ?_
    refine t_upd true 2 0 [(.int .i64 0), (.int .i64 0)] (.agg [(.int .i64 r7), (.int .i64 r8)]) [(.int .i64 r7), (.int .i64 r8)] [(.int .i64 r7), (.int .i64 r8)] H11 (by kernel_rfl) rfl (all_c rfl (all_c rfl all_n)) ⟨rfl, Nat.le_of_ble_eq_true (by kernel_rfl), rfl⟩ ?_
    refine t_done [(.agg [c0, c1]), (.int .i64 time2), (.int .i64 0), (.agg [(.int .i64 r7), (.int .i64 r8)]), (.agg [c0, c1]), (.agg [(.int .i64 r7), (.int .i64 r8)]), (.bool (!(((r7) == 0) && (((r8) == 0) && true)))), .undef, .undef, .undef, .undef, .undef, .undef, .undef, .undef, .undef] H11 (by kernel_rfl) ?_
    refine then_norm ?_
    refine w_ret ?_
    refine then_ret ?_
    exact body_ret (vs := [(.int .i64 0), (.agg [(.int .i64 r7), (.int .i64 r8)])]) _ (by kernel_rfl) rfl h
  · replace h := h.2 ((is_not (is_and is_eq (is_and is_eq is_true))).f hc)
    refine w_skip ?_
    refine then_norm ?_
    refine w_seq ?_
    refine w_seq ?_
    refine w_run [0, 1, 0] ?_
    refine t_quo true .no .i64 time2 1440 H11 (by kernel_rfl) (by decide) ?_
    refine t_done [(.agg [c0, c1]), (.int .i64 time2), (.int .i64 0), (.agg [(.int .i64 0), (.int .i64 0)]), (.agg [c0, c1]), (.agg [(.int .i64 r7), (.int .i64 r8)]), (.bool (!(((r7) == 0) && (((r8) == 0) && true)))), (.int .i64 (IntKind.wrap .i64 (Int.tdiv time2 1440))), .undef, .undef, .undef, .undef, .undef, .undef, .undef, .undef] H11 (by kernel_rfl) ?_
    refine then_norm ?_
    refine w_block ?_
    obtain ⟨J12, k13, h0, h⟩ := h
    refine w_loop (I := fun mI EI HI => ∃ (d15 : AV) (v16 : Int) (v17 : Int) (d18 : Int) (d19 : AV) (d20 : AV) (d21 : AV) (d22 : AV) (d23 : AV) (d24 : AV) (d25 : AV) (d26 : AV), EI = [(.agg [c0, c1]), (.int .i64 time2), d15, (.agg [(.int .i64 v16), (.int .i64 v17)]), (.agg [c0, c1]), (.agg [(.int .i64 r7), (.int .i64 r8)]), (.bool (!(((r7) == 0) && (((r8) == 0) && true)))), (.int .i64 d18), d19, d20, d21, d22, d23, d24, d25, d26] ∧ J12 mI v16 v17 d18 HI) ?_ k13 ⟨_, _, _, _, _, _, _, _, _, _, _, _, rfl, h0⟩
    clear h0
    rintro m14 EI H27 ⟨d15, v16, v17, d18, d19, d20, d21, d22, d23, d24, d25, d26, rfl, hJ⟩
    replace h := h m14 v16 v17 d18 H27 hJ
    clear hJ
    refine w_seq ?_
    refine w_seq ?_
    refine w_run [0, 0, 0, 0, 0] ?_
    refine t_done [(.agg [c0, c1]), (.int .i64 time2), d15, (.agg [(.int .i64 v16), (.int .i64 v17)]), (.agg [c0, c1]), (.agg [(.int .i64 r7), (.int .i64 r8)]), (.bool (!(((r7) == 0) && (((r8) == 0) && true)))), (.int .i64 d18), (.bool (decide ((IntKind.wrap .i64 (d18 * 1440)) ≤ (IntKind.wrap .i64 (time2 + 500000))))), d20, d21, d22, d23, d24, d25, d26] H27 (by kernel_rfl) ?_
    refine then_norm ?_
    refine w_cond (t := (decide ((IntKind.wrap .i64 (d18 * 1440)) ≤ (IntKind.wrap .i64 (time2 + 500000))))) rfl (fun hc => ?_) (fun hc => ?_)
    · replace h := h.1 (is_dec.t hc)
      refine w_skip ?_
      refine then_norm ?_
      refine w_seq ?_
      refine w_block ?_
      refine w_seq ?_
      refine w_run [0, 0, 1, 1, 0] ?_
      refine t_call true ncalendar_day [(.agg [c0, c1]), (.int .i64 d18)] H27 (by kernel_rfl) h ?_
      clear h
      rintro r28 H29 h
      obtain ⟨len31, hl, h⟩ := h
      refine t_len true r28 len31 H29 (by kernel_rfl) hl ?_
      refine t_done [(.agg [c0, c1]), (.int .i64 time2), d15, (.agg [(.int .i64 v16), (.int .i64 v17)]), (.agg [c0, c1]), (.agg [(.int .i64 r7), (.int .i64 r8)]), (.bool (!(((r7) == 0) && (((r8) == 0) && true)))), (.int .i64 d18), (.bool (decide ((IntKind.wrap .i64 (d18 * 1440)) ≤ (IntKind.wrap .i64 (time2 + 500000))))), (.int .i64 0), (.int .i64 (len31 : Int)), d22, r28, d24, d25, d26] H29 (by kernel_rfl) ?_
      refine then_norm ?_
      refine w_block ?_
      obtain ⟨J32, k33, h0, h⟩ := h
      refine w_loop (I := fun mI EI HI => ∃ (d35 : AV) (v36 : Int) (v37 : Int) (v38 : Int) (d39 : AV) (d40 : AV) (d41 : AV) (d42 : AV), EI = [(.agg [c0, c1]), (.int .i64 time2), d35, (.agg [(.int .i64 v36), (.int .i64 v37)]), (.agg [c0, c1]), (.agg [(.int .i64 r7), (.int .i64 r8)]), (.bool (!(((r7) == 0) && (((r8) == 0) && true)))), (.int .i64 d18), (.bool (decide ((IntKind.wrap .i64 (d18 * 1440)) ≤ (IntKind.wrap .i64 (time2 + 500000))))), (.int .i64 v38), (.int .i64 (len31 : Int)), d39, r28, d40, d41, d42] ∧ J32 mI v36 v37 v38 HI) ?_ k33 ⟨_, _, _, _, _, _, _, _, rfl, h0⟩
      clear h0
      rintro m34 EI H43 ⟨d35, v36, v37, v38, d39, d40, d41, d42, rfl, hJ⟩
      replace h := h m34 v36 v37 v38 H43 hJ
      clear hJ
      refine w_seq ?_
      refine w_run [0] ?_
      refine t_done [(.agg [c0, c1]), (.int .i64 time2), d35, (.agg [(.int .i64 v36), (.int .i64 v37)]), (.agg [c0, c1]), (.agg [(.int .i64 r7), (.int .i64 r8)]), (.bool (!(((r7) == 0) && (((r8) == 0) && true)))), (.int .i64 d18), (.bool (decide ((IntKind.wrap .i64 (d18 * 1440)) ≤ (IntKind.wrap .i64 (time2 + 500000))))), (.int .i64 v38), (.int .i64 (len31 : Int)), (.bool (decide (v38 < (len31 : Int)))), r28, d40, d41, d42] H43 (by kernel_rfl) ?_
      refine then_norm ?_
      refine w_seq ?_
      refine w_cond (t := (decide (v38 < (len31 : Int)))) rfl (fun hc => ?_) (fun hc => ?_)
      · replace h := h.1 (is_dec.t hc)
        refine w_skip ?_
        refine then_norm ?_
        refine w_seq ?_
        refine w_block ?_
        refine w_seq ?_
        refine w_run [1, 1, 1, 1] ?_
        obtain ⟨e44, e45, hg46, h⟩ := h
        refine t_idxG true 2 r28 .i64 v38 H43 (by kernel_rfl) hg46 ?_
        refine t_loadG true (some 2) 2 r28 v38 0 (.agg [(.int .i64 e44), (.int .i64 e45)]) H43 (by kernel_rfl) hg46 ?_
        obtain ⟨H47, hb⟩ : ∃ H', Dead1 H43 1 H' := ⟨_, ⟨rfl⟩⟩
        replace h := h H47 hb
        refine t_tomb true 1 (.agg [(.int .i64 0), (.int .i64 0)]) [(.int .i64 0), (.int .i64 0)] H47 H43 (by kernel_rfl) rfl hb ?_
        refine t_upd true 2 0 [(.int .i64 0), (.int .i64 0)] (.agg [(.int .i64 e44), (.int .i64 e45)]) [(.int .i64 e44), (.int .i64 e45)] [(.int .i64 e44), (.int .i64 e45)] H47 (by kernel_rfl) rfl (all_c rfl (all_c rfl all_n)) ⟨rfl, Nat.le_of_ble_eq_true (by kernel_rfl), rfl⟩ ?_
        refine t_done [(.agg [c0, c1]), (.int .i64 time2), d35, (.agg [(.int .i64 v36), (.int .i64 v37)]), (.agg [c0, c1]), (.agg [(.int .i64 r7), (.int .i64 r8)]), (.bool (!(((r7) == 0) && (((r8) == 0) && true)))), (.int .i64 d18), (.bool (decide ((IntKind.wrap .i64 (d18 * 1440)) ≤ (IntKind.wrap .i64 (time2 + 500000))))), (.int .i64 v38), (.int .i64 (len31 : Int)), (.bool (decide (v38 < (len31 : Int)))), r28, (.agg [(.int .i64 e44), (.int .i64 e45)]), d41, d42] H47 (by kernel_rfl) ?_
        refine then_norm ?_
        refine w_seq ?_
        refine w_run [0, 0, 0, 0, 0] ?_
        refine t_done [(.agg [c0, c1]), (.int .i64 time2), d35, (.agg [(.int .i64 v36), (.int .i64 v37)]), (.agg [c0, c1]), (.agg [(.int .i64 r7), (.int .i64 r8)]), (.bool (!(((r7) == 0) && (((r8) == 0) && true)))), (.int .i64 d18), (.bool (decide ((IntKind.wrap .i64 (d18 * 1440)) ≤ (IntKind.wrap .i64 (time2 + 500000))))), (.int .i64 v38), (.int .i64 (len31 : Int)), (.bool (decide (v38 < (len31 : Int)))), r28, (.agg [(.int .i64 e44), (.int .i64 e45)]), (.int .i64 (imax e44 time2)), d42] H47 (by kernel_rfl) ?_
        refine then_norm ?_
        refine w_seq ?_
        refine w_run [0, 0, 0, 0, 0, 0, 0, 0, 0, 0] ?_
        refine t_done [(.agg [c0, c1]), (.int .i64 time2), d35, (.agg [(.int .i64 v36), (.int .i64 v37)]), (.agg [c0, c1]), (.agg [(.int .i64 r7), (.int .i64 r8)]), (.bool (!(((r7) == 0) && (((r8) == 0) && true)))), (.int .i64 d18), (.bool (decide ((IntKind.wrap .i64 (d18 * 1440)) ≤ (IntKind.wrap .i64 (time2 + 500000))))), (.int .i64 v38), (.int .i64 (len31 : Int)), (.bool (decide (v38 < (len31 : Int)))), r28, (.agg [(.int .i64 e44), (.int .i64 e45)]), (.int .i64 (imax e44 time2)), (.bool ((decide ((imax e44 time2) < e45)) && (decide ((imax e44 time2) ≤ (IntKind.wrap .i64 (time2 + 500000))))))] H47 (by kernel_rfl) ?_
        refine then_norm ?_
        refine w_cond (t := ((decide ((imax e44 time2) < e45)) && (decide ((imax e44 time2) ≤ (IntKind.wrap .i64 (time2 + 500000)))))) rfl (fun hc => ?_) (fun hc => ?_)
        · replace h := h.1 ((is_and is_dec is_dec).t hc)
          refine w_seq ?_
          refine w_run [0, 0, 0, 1] ?_
          refine t_upd true 2 0 [(.int .i64 v36), (.int .i64 v37)] (.agg [(.int .i64 r7), (.int .i64 r8)]) [(.int .i64 r7), (.int .i64 r8)] [(.int .i64 r7), (.int .i64 r8)] H47 (by kernel_rfl) rfl (all_c rfl (all_c rfl all_n)) ⟨rfl, Nat.le_of_ble_eq_true (by kernel_rfl), rfl⟩ ?_
          refine t_done [(.agg [c0, c1]), (.int .i64 time2), (.int .i64 (imax e44 time2)), (.agg [(.int .i64 r7), (.int .i64 r8)]), (.agg [c0, c1]), (.agg [(.int .i64 r7), (.int .i64 r8)]), (.bool (!(((r7) == 0) && (((r8) == 0) && true)))), (.int .i64 d18), (.bool (decide ((IntKind.wrap .i64 (d18 * 1440)) ≤ (IntKind.wrap .i64 (time2 + 500000))))), (.int .i64 v38), (.int .i64 (len31 : Int)), (.bool (decide (v38 < (len31 : Int)))), r28, (.agg [(.int .i64 e44), (.int .i64 e45)]), (.int .i64 (imax e44 time2)), (.bool ((decide ((imax e44 time2) < e45)) && (decide ((imax e44 time2) ≤ (IntKind.wrap .i64 (time2 + 500000))))))] H47 (by kernel_rfl) ?_
          refine then_norm ?_
          refine w_ret ?_
          refine block_ret ?_
          refine then_ret ?_
          refine loop_ret ?_
          refine block_ret ?_
          refine block_ret ?_
          refine then_ret ?_
          refine loop_ret ?_
          refine block_ret ?_
          refine then_ret ?_
          exact body_ret (vs := [(.int .i64 (imax e44 time2)), (.agg [(.int .i64 r7), (.int .i64 r8)])]) _ (by kernel_rfl) rfl h
        · replace h := h.2 ((is_and is_dec is_dec).f hc)
          refine w_skip ?_
          refine block_norm ?_
          refine then_norm ?_
          refine w_run [0, 0] ?_
          refine t_done [(.agg [c0, c1]), (.int .i64 time2), d35, (.agg [(.int .i64 v36), (.int .i64 v37)]), (.agg [c0, c1]), (.agg [(.int .i64 r7), (.int .i64 r8)]), (.bool (!(((r7) == 0) && (((r8) == 0) && true)))), (.int .i64 d18), (.bool (decide ((IntKind.wrap .i64 (d18 * 1440)) ≤ (IntKind.wrap .i64 (time2 + 500000))))), (.int .i64 (IntKind.wrap .i64 (v38 + 1))), (.int .i64 (len31 : Int)), (.bool (decide (v38 < (len31 : Int)))), r28, (.agg [(.int .i64 e44), (.int .i64 e45)]), (.int .i64 (imax e44 time2)), (.bool ((decide ((imax e44 time2) < e45)) && (decide ((imax e44 time2) ≤ (IntKind.wrap .i64 (time2 + 500000))))))] H47 (by kernel_rfl) ?_
          obtain ⟨m', hm, h⟩ := h
          refine loop_norm ⟨m', hm, _, _, _, _, _, _, _, _, rfl, h⟩
      · replace h := h.2 (is_dec.f hc)
        refine w_exit ?_
        refine then_exit ?_
        refine loop_exit ?_
        refine block_exit ?_
        refine block_norm ?_
        refine then_norm ?_
        refine w_run [0, 0, 0] ?_
        refine t_done [(.agg [c0, c1]), (.int .i64 time2), d35, (.agg [(.int .i64 v36), (.int .i64 v37)]), (.agg [c0, c1]), (.agg [(.int .i64 r7), (.int .i64 r8)]), (.bool (!(((r7) == 0) && (((r8) == 0) && true)))), (.int .i64 (IntKind.wrap .i64 (d18 + 1))), (.bool (decide ((IntKind.wrap .i64 (d18 * 1440)) ≤ (IntKind.wrap .i64 (time2 + 500000))))), (.int .i64 v38), (.int .i64 (len31 : Int)), (.bool (decide (v38 < (len31 : Int)))), r28, d40, d41, d42] H43 (by kernel_rfl) ?_
        obtain ⟨m', hm, h⟩ := h
        refine loop_norm ⟨m', hm, _, _, _, _, _, _, _, _, _, _, _, _, rfl, h⟩
    · replace h := h.2 (is_dec.f hc)
      refine w_exit ?_
      refine then_exit ?_
      refine loop_exit ?_
      refine block_exit ?_
      refine then_norm ?_
      refine w_seq ?_
      refine w_run [1, 0, 1] ?_
      refine t_build true [(.int .i64 0), (.int .i64 0)] [(0, 1, .loc 0), (1, 1, .loc 1)] [(.int .i64 6), (.int .i64 (-21))] [(.int .i64 6), (.int .i64 (-21))] H27 (by kernel_rfl) (fill_c (vs := [(.int .i64 6)]) (size := 1) rfl (by kernel_rfl) (by kernel_rfl) (fill_c (vs := [(.int .i64 (-21))]) (size := 1) rfl (by kernel_rfl) (by kernel_rfl) (by kernel_rfl))) ?_
      refine t_upd true 2 0 [(.int .i64 v16), (.int .i64 v17)] (.agg [(.int .i64 6), (.int .i64 (-21))]) [(.int .i64 6), (.int .i64 (-21))] [(.int .i64 6), (.int .i64 (-21))] H27 (by kernel_rfl) rfl (all_c rfl (all_c rfl all_n)) ⟨rfl, Nat.le_of_ble_eq_true (by kernel_rfl), rfl⟩ ?_
      refine t_done [(.agg [c0, c1]), (.int .i64 time2), (.int .i64 0), (.agg [(.int .i64 6), (.int .i64 (-21))]), (.agg [c0, c1]), (.agg [(.int .i64 r7), (.int .i64 r8)]), (.bool (!(((r7) == 0) && (((r8) == 0) && true)))), (.int .i64 d18), (.bool (decide ((IntKind.wrap .i64 (d18 * 1440)) ≤ (IntKind.wrap .i64 (time2 + 500000))))), d20, d21, d22, d23, d24, d25, d26] H27 (by kernel_rfl) ?_
      refine then_norm ?_
      refine w_ret ?_
      exact body_ret (vs := [(.int .i64 0), (.agg [(.int .i64 6), (.int .i64 (-21))])]) _ (by kernel_rfl) rfl h

-- calendar_Worked
def rf_calendar_Worked (ncalendar_check ncalendar_day : Nat) : RFunc := ⟨3, 17, [.var 3, .part 4 (some 2)],
 ((.seq (.ops [⟨.tomb 1 (.var 0), none, (some 5), true⟩, ⟨.move (.k (.int .i64 0)), none, (some 3), true⟩, ⟨.tomb 1 (.k (.agg [.int .i64 0, .int .i64 0])), none, (some 4), true⟩])
 ((.seq (.ops [⟨.field 0 (some 2) (.var 5), none, none, true⟩, ⟨.move (.var 1), none, none, true⟩, ⟨.move (.var 2), none, none, true⟩, ⟨.buildSlice 1 [.int .i64 0] [(0, 1, (.loc 1)), (1, 1, (.loc 2))] 2, none, none, true⟩, ⟨.callS ncalendar_check [(.loc 0), (.loc 3)], none, none, true⟩, ⟨.tomb 1 (.k (.agg [.int .i64 0, .int .i64 0])), none, (some 6), true⟩, ⟨.upd 2 0 (.loc 5) (.loc 4), none, (some 6), true⟩])
 ((.seq ((.seq (.ops [⟨.field 0 (some 2) (.var 6), none, none, true⟩, ⟨.build [.int .i64 0, .int .i64 0] [], none, none, true⟩, ⟨.bin .eql (.agg [.int, .int]) (.loc 0) (.loc 1), none, none, true⟩, ⟨.move (.loc 2), none, none, true⟩, ⟨.move (.var 2), none, none, true⟩, ⟨.move (.var 1), none, none, true⟩, ⟨.bin .lss .no (.loc 4) (.loc 5), none, none, true⟩, ⟨.move (.loc 6), none, none, true⟩, ⟨.move (.var 2), none, none, true⟩, ⟨.move (.var 1), none, none, true⟩, ⟨.bin .sub .no (.loc 8) (.loc 9), none, none, true⟩, ⟨.bin .gtr .no (.loc 10) (.k (.int .i64 500000)), none, none, true⟩, ⟨.pick (.loc 7) (.k (.bool true)) (.loc 11), none, none, true⟩, ⟨.pick (.loc 3) (.loc 12) (.k (.bool false)), none, (some 7), true⟩])
 (.cond (.var 7) (.ops [⟨.build [.int .i64 0, .int .i64 0] [(0, 1, (.k (.int .i64 3))), (1, 1, (.k (.int .i64 (-21))))], none, none, true⟩, ⟨.upd 2 0 (.var 6) (.loc 0), none, (some 6), true⟩]) (.skip))))
 ((.seq ((.seq (.ops [⟨.field 0 (some 2) (.var 6), none, none, true⟩, ⟨.build [.int .i64 0, .int .i64 0] [], none, none, true⟩, ⟨.bin .neq (.agg [.int, .int]) (.loc 0) (.loc 1), none, (some 8), true⟩])
 (.cond (.var 8) ((.seq (.ops [⟨.field 0 (some 2) (.var 6), none, none, true⟩, ⟨.move (.k (.int .i64 0)), none, (some 3), false⟩, ⟨.upd 2 0 (.var 4) (.loc 0), none, (some 4), true⟩])
 (.ret))) (.skip))))
 ((.seq (.ops [⟨.move (.k (.int .i64 0)), none, (some 15), true⟩])
 ((.seq ((.seq (.ops [⟨.move (.var 1), none, none, true⟩, ⟨.bin .quo .no (.loc 0) (.k (.int .i64 1440)), none, none, true⟩, ⟨.move (.loc 1), none, (some 9), true⟩])
 (.block 0 (.loop ((.seq ((.seq (.ops [⟨.move (.var 9), none, none, true⟩, ⟨.bin .mul .no (.loc 0) (.k (.int .i64 1440)), none, none, true⟩, ⟨.move (.var 2), none, none, true⟩, ⟨.bin .lss .no (.loc 1) (.loc 2), none, (some 10), true⟩])
 (.cond (.var 10) (.skip) (.exit 0))))
 ((.seq (.block 1 ((.seq (.ops [⟨.field 0 (some 2) (.var 5), none, none, true⟩, ⟨.move (.var 9), none, none, true⟩, ⟨.callS ncalendar_day [(.loc 0), (.loc 1)], none, (some 14), true⟩, ⟨.len (.loc 2), none, (some 12), true⟩, ⟨.move (.k (.int .i64 0)), none, (some 11), true⟩])
 (.block 2 (.loop ((.seq (.ops [⟨.bin .lss .no (.var 11) (.var 12), none, (some 13), true⟩])
 ((.seq (.cond (.var 13) (.skip) (.exit 2))
 ((.seq (.block 3 ((.seq (.ops [⟨.indexAddr 2 (.var 14) (.var 11), none, none, true⟩, ⟨.load (some 2) (.loc 0), none, none, true⟩, ⟨.tomb 1 (.k (.agg [.int .i64 0, .int .i64 0])), none, (some 16), true⟩, ⟨.upd 2 0 (.loc 2) (.loc 1), none, (some 16), true⟩])
 (.ops [⟨.move (.var 15), none, none, true⟩, ⟨.field 0 none (.var 16), none, none, true⟩, ⟨.field 1 none (.var 16), none, none, true⟩, ⟨.move (.var 2), none, none, true⟩, ⟨.min (.loc 2) [(.loc 3)], none, none, true⟩, ⟨.field 0 none (.var 16), none, none, true⟩, ⟨.field 0 none (.var 16), none, none, true⟩, ⟨.move (.var 1), none, none, true⟩, ⟨.max (.loc 6) [(.loc 7)], none, none, true⟩, ⟨.bin .sub .no (.loc 4) (.loc 8), none, none, true⟩, ⟨.max (.k (.int .i64 0)) [(.loc 9)], none, none, true⟩, ⟨.bin .add .no (.loc 0) (.loc 10), none, none, true⟩, ⟨.move (.loc 11), none, (some 15), true⟩]))))
 (.ops [⟨.bin .add .no (.var 11) (.k (.int .i64 1)), none, none, true⟩, ⟨.move (.loc 0), none, (some 11), true⟩]))))))))))))
 (.ops [⟨.move (.var 9), none, none, true⟩, ⟨.bin .add .no (.loc 0) (.k (.int .i64 1)), none, none, true⟩, ⟨.move (.loc 1), none, (some 9), true⟩])))))))))
 ((.seq (.ops [⟨.move (.var 15), none, none, false⟩, ⟨.field 0 (some 2) (.var 6), none, none, true⟩, ⟨.move (.loc 0), none, (some 3), false⟩, ⟨.upd 2 0 (.var 4) (.loc 1), none, (some 4), true⟩])
 (.ret)))))))))))))))⟩
theorem v_calendar_Worked {F : Nat → Option RFunc} {me ncalendar_check ncalendar_day : Nat} (hF : F me = some (rf_calendar_Worked ncalendar_check ncalendar_day)) {fl : Nat} {H : Heap} {Q : AV → Heap → Prop} (c0 : AV) (c1 : AV) (from2 : Int) (to3 : Int)
  (h : ∀ (H4 : Heap), Dead1 H 1 H4 → ∀ (H5 : Heap), Dead1 H4 1 H5 → ∀ (b6 : Nat) (H7 : Heap), NewB H5 1 [(.int .i64 from2), (.int .i64 to3)] b6 H7 → Ret F fl ncalendar_check [(.agg [c0, c1]), (.slice b6 0 2 (some 2))] H7 (fun v11 H10 => ∃ (r8 : Int) (r9 : Int), v11 = (.agg [(.int .i64 r8), (.int .i64 r9)]) ∧ ∀ (H12 : Heap), Dead1 H10 1 H12 → ∃ (R13 : Int → Int → Prop), (((((((r8 = 0) ∧ (((r9 = 0) ∧ (True))))) ∧ (((to3 < from2) ∨ ((IntKind.wrap .i64 (to3 - from2)) > 500000))))) → R13 3 (-21)) ∧ (¬(((((r8 = 0) ∧ (((r9 = 0) ∧ (True))))) ∧ (((to3 < from2) ∨ ((IntKind.wrap .i64 (to3 - from2)) > 500000))))) → R13 r8 r9)) ∧ (∀ (f14 : Int) (f15 : Int), R13 f14 f15 → ((¬(((f14 = 0) ∧ (((f15 = 0) ∧ (True)))))) → Q (.tuple [(.int .i64 0), (.agg [(.int .i64 f14), (.int .i64 f15)])]) H12) ∧ (¬(¬(((f14 = 0) ∧ (((f15 = 0) ∧ (True)))))) → ∃ (J17 : Nat → Int → Int → Heap → Prop) (k18 : Nat), J17 k18 (IntKind.wrap .i64 (Int.tdiv from2 1440)) 0 H12 ∧ (∀ (m19 : Nat) (d20 : Int) (sum26 : Int) (H28 : Heap), J17 m19 d20 sum26 H28 → (((IntKind.wrap .i64 (d20 * 1440)) < to3) → Ret F fl ncalendar_day [(.agg [c0, c1]), (.int .i64 d20)] H28 (fun r29 H30 => ∃ len32 : Nat, lenA r29 = some len32 ∧ ∃ (J33 : Nat → Int → Int → Heap → Prop) (k34 : Nat), J33 k34 0 sum26 H30 ∧ (∀ (m35 : Nat) (v36 : Int) (sum38 : Int) (H40 : Heap), J33 m35 v36 sum38 H40 → ((v36 < (len32 : Int)) → ∃ (e41 : Int) (e42 : Int), getA H40 2 (some 2) r29 v36 0 = some (.agg [(.int .i64 e41), (.int .i64 e42)]) ∧ ∀ (H44 : Heap), Dead1 H40 1 H44 → ∃ m45 : Nat, m45 < m35 ∧ J33 m45 (IntKind.wrap .i64 (v36 + 1)) (IntKind.wrap .i64 (sum38 + (imax 0 (IntKind.wrap .i64 ((imin e42 to3) - (imax e41 from2)))))) H44) ∧ (¬(v36 < (len32 : Int)) → ∃ m46 : Nat, m46 < m19 ∧ J17 m46 (IntKind.wrap .i64 (d20 + 1)) sum38 H40)))) ∧ (¬((IntKind.wrap .i64 (d20 * 1440)) < to3) → Q (.tuple [(.int .i64 sum26), (.agg [(.int .i64 f14), (.int .i64 f15)])]) H28)))))) : Ret F fl me [(.agg [c0, c1]), (.int .i64 from2), (.int .i64 to3)] H Q := by
  refine ret_intro hF rfl ?_
  refine w_seq ?_
  refine w_run [1, 0, 1] ?_
  obtain ⟨H4, hb⟩ : ∃ H', Dead1 H 1 H' := ⟨_, ⟨rfl⟩⟩
  replace h := h H4 hb
  refine t_tomb true 1 (.agg [c0, c1]) [c0, c1] H4 H (by kernel_rfl) rfl hb ?_
  obtain ⟨H5, hb⟩ : ∃ H', Dead1 H4 1 H' := ⟨_, ⟨rfl⟩⟩
  replace h := h H5 hb
  refine t_tomb true 1 (.agg [(.int .i64 0), (.int .i64 0)]) [(.int .i64 0), (.int .i64 0)] H5 H4 (by kernel_rfl) rfl hb ?_
  refine t_done [(.agg [c0, c1]), (.int .i64 from2), (.int .i64 to3), (.int .i64 0), (.agg [(.int .i64 0), (.int .i64 0)]), (.agg [c0, c1]), .undef, .undef, .undef, .undef, .undef, .undef, .undef, .undef, .undef, .undef, .undef] H5 (by kernel_rfl) ?_
  refine then_norm ?_
  refine w_seq ?_
  refine w_run [0, 0, 0, 1, 1, 1, 1] ?_
  obtain ⟨b6, H7, hb⟩ : ∃ b H', NewB H5 1 [(.int .i64 from2), (.int .i64 to3)] b H' := ⟨_, _, rfl, rfl⟩
  replace h := h b6 H7 hb
  refine t_bs true 1 [(.int .i64 0)] [(0, 1, .loc 0), (1, 1, .loc 1)] 2 [(.int .i64 from2), (.int .i64 to3)] [(.int .i64 from2), (.int .i64 to3)] b6 H7 H5 (by kernel_rfl) (fill_c (vs := [(.int .i64 from2)]) (size := 1) rfl (by kernel_rfl) (by kernel_rfl) (fill_c (vs := [(.int .i64 to3)]) (size := 1) rfl (by kernel_rfl) (by kernel_rfl) (by kernel_rfl))) hb ?_
  refine t_call true ncalendar_check [(.agg [c0, c1]), (.slice b6 0 2 (some 2))] H7 (by kernel_rfl) h ?_
  clear h
  rintro _ H10 ⟨r8, r9, rfl, h⟩
  obtain ⟨H12, hb⟩ : ∃ H', Dead1 H10 1 H' := ⟨_, ⟨rfl⟩⟩
  replace h := h H12 hb
  refine t_tomb true 1 (.agg [(.int .i64 0), (.int .i64 0)]) [(.int .i64 0), (.int .i64 0)] H12 H10 (by kernel_rfl) rfl hb ?_
  refine t_upd true 2 0 [(.int .i64 0), (.int .i64 0)] (.agg [(.int .i64 r8), (.int .i64 r9)]) [(.int .i64 r8), (.int .i64 r9)] [(.int .i64 r8), (.int .i64 r9)] H12 (by kernel_rfl) rfl (all_c rfl (all_c rfl all_n)) ⟨rfl, Nat.le_of_ble_eq_true (by kernel_rfl), rfl⟩ ?_
  refine t_done [(.agg [c0, c1]), (.int .i64 from2), (.int .i64 to3), (.int .i64 0), (.agg [(.int .i64 0), (.int .i64 0)]), (.agg [c0, c1]), (.agg [(.int .i64 r8), (.int .i64 r9)]), .undef, .undef, .undef, .undef, .undef, .undef, .undef, .undef, .undef, .undef] H12 (by kernel_rfl) ?_
  refine then_norm ?_
  refine w_seq ?_
  obtain ⟨R13, h, hK⟩ := h
  refine w_join (fun EI HI => ∃ (f14 : Int) (f15 : Int) (d16 : AV), EI = [(.agg [c0, c1]), (.int .i64 from2), (.int .i64 to3), (.int .i64 0), (.agg [(.int .i64 0), (.int .i64 0)]), (.agg [c0, c1]), (.agg [(.int .i64 f14), (.int .i64 f15)]), d16, .undef, .undef, .undef, .undef, .undef, .undef, .undef, .undef, .undef] ∧ H12 = HI ∧ R13 f14 f15) ?_ ?_
  · clear hK
    refine w_seq ?_
    refine w_run [0, 1, 0, 0, 0, 0, 0, 0, 0, 0, 0, 0, 0, 0] ?_
    refine t_build true [(.int .i64 0), (.int .i64 0)] [] [] [(.int .i64 0), (.int .i64 0)] H12 (by kernel_rfl) (by kernel_rfl) ?_
    refine t_done [(.agg [c0, c1]), (.int .i64 from2), (.int .i64 to3), (.int .i64 0), (.agg [(.int .i64 0), (.int .i64 0)]), (.agg [c0, c1]), (.agg [(.int .i64 r8), (.int .i64 r9)]), (.bool ((((r8) == 0) && (((r9) == 0) && true)) && ((decide (to3 < from2)) || (decide ((IntKind.wrap .i64 (to3 - from2)) > 500000))))), .undef, .undef, .undef, .undef, .undef, .undef, .undef, .undef, .undef] H12 (by kernel_rfl) ?_
    refine then_norm ?_
    refine w_cond (t := ((((r8) == 0) && (((r9) == 0) && true)) && ((decide (to3 < from2)) || (decide ((IntKind.wrap .i64 (to3 - from2)) > 500000))))) rfl (fun hc => ?_) (fun hc => ?_)
    · replace h := h.1 ((is_and (is_and is_eq (is_and is_eq is_true)) (is_or is_dec is_dec)).t hc)
      refine w_run [1, 1] ?_
      refine t_build true [(.int .i64 0), (.int .i64 0)] [(0, 1, .loc 0), (1, 1, .loc 1)] [(.int .i64 3), (.int .i64 (-21))] [(.int .i64 3), (.int .i64 (-21))] H12 (by kernel_rfl) (fill_c (vs := [(.int .i64 3)]) (size := 1) rfl (by kernel_rfl) (by kernel_rfl) (fill_c (vs := [(.int .i64 (-21))]) (size := 1) rfl (by kernel_rfl) (by kernel_rfl) (by kernel_rfl))) ?_
      refine t_upd true 2 0 [(.int .i64 r8), (.int .i64 r9)] (.agg [(.int .i64 3), (.int .i64 (-21))]) [(.int .i64 3), (.int .i64 (-21))] [(.int .i64 3), (.int .i64 (-21))] H12 (by kernel_rfl) rfl (all_c rfl (all_c rfl all_n)) ⟨rfl, Nat.le_of_ble_eq_true (by kernel_rfl), rfl⟩ ?_
      refine t_done [(.agg [c0, c1]), (.int .i64 from2), (.int .i64 to3), (.int .i64 0), (.agg [(.int .i64 0), (.int .i64 0)]), (.agg [c0, c1]), (.agg [(.int .i64 3), (.int .i64 (-21))]), (.bool ((((r8) == 0) && (((r9) == 0) && true)) && ((decide (to3 < from2)) || (decide ((IntKind.wrap .i64 (to3 - from2)) > 500000))))), .undef, .undef, .undef, .undef, .undef, .undef, .undef, .undef, .undef] H12 (by kernel_rfl) ?_
      refine join_norm ⟨_, _, _, rfl, rfl, h⟩
    · replace h := h.2 ((is_and (is_and is_eq (is_and is_eq is_true)) (is_or is_dec is_dec)).f hc)
      refine w_skip ?_
      refine join_norm ⟨_, _, _, rfl, rfl, h⟩
  · clear h
    rintro EI HI ⟨f14, f15, d16, rfl, rfl, hJ⟩
    have h := hK f14 f15 hJ
    clear hJ hK
    refine then_norm ?_
    refine w_seq ?_
    refine w_seq ?_
    refine w_run [0, 1, 0] ?_
    refine t_build true [(.int .i64 0), (.int .i64 0)] [] [] [(.int .i64 0), (.int .i64 0)] H12 (by kernel_rfl) (by kernel_rfl) ?_
    refine t_done [(.agg [c0, c1]), (.int .i64 from2), (.int .i64 to3), (.int .i64 0), (.agg [(.int .i64 0), (.int .i64 0)]), (.agg [c0, c1]), (.agg [(.int .i64 f14), (.int .i64 f15)]), d16, (.bool (!(((f14) == 0) && (((f15) == 0) && true)))), .undef, .undef, .undef, .undef, .undef, .undef, .undef, .undef] H12 (by kernel_rfl) ?_
    refine then_norm ?_
    refine w_cond (t := (!(((f14) == 0) && (((f15) == 0) && true)))) rfl (fun hc => ?_) (fun hc => ?_)
    · replace h := h.1 ((is_not (is_and is_eq (is_and is_eq is_true))).t hc)
      refine w_seq ?_
      refine w_run [0, 0, 1] ?_
      refine t_upd true 2 0 [(.int .i64 0), (.int .i64 0)] (.agg [(.int .i64 f14), (.int .i64 f15)]) [(.int .i64 f14), (.int .i64 f15)] [(.int .i64 f14), (.int .i64 f15)] H12 (by kernel_rfl) rfl (all_c rfl (all_c rfl all_n)) ⟨rfl, Nat.le_of_ble_eq_true (by kernel_rfl), rfl⟩ ?_
      refine t_done [(.agg [c0, c1]), (.int .i64 from2), (.int .i64 to3), (.int .i64 0), (.agg [(.int .i64 f14), (.int .i64 f15)]), (.agg [c0, c1]), (.agg [(.int .i64 f14), (.int .i64 f15)]), d16, (.bool (!(((f14) == 0) && (((f15) == 0) && true)))), .undef, .undef, .undef, .undef, .undef, .undef, .undef, .undef] H12 (by kernel_rfl) ?_
      refine then_norm ?_
      refine w_ret ?_
      refine then_ret ?_
      exact body_ret (vs := [(.int .i64 0), (.agg [(.int .i64 f14), (.int .i64 f15)])]) _ (by kernel_rfl) rfl h
    · replace h := h.2 ((is_not (is_and is_eq (is_and is_eq is_true))).f hc)
      refine w_skip ?_
      refine then_norm ?_
      refine w_seq ?_
      refine w_run [0] ?_
      refine t_done [(.agg [c0, c1]), (.int .i64 from2), (.int .i64 to3), (.int .i64 0), (.agg [(.int .i64 0), (.int .i64 0)]), (.agg [c0, c1]), (.agg [(.int .i64 f14), (.int .i64 f15)]), d16, (.bool (!(((f14) == 0) && (((f15) == 0) && true)))), .undef, .undef, .undef, .undef, .undef, .undef, (.int .i64 0), .undef] H12 (by kernel_rfl) ?_
      refine then_norm ?_
      refine w_seq ?_
      refine w_seq ?_
      refine w_run [0, 1, 0] ?_
      refine t_quo true .no .i64 from2 1440 H12 (by kernel_rfl) (by decide) ?_
      refine t_done [(.agg [c0, c1]), (.int .i64 from2), (.int .i64 to3), (.int .i64 0), (.agg [(.int .i64 0), (.int .i64 0)]), (.agg [c0, c1]), (.agg [(.int .i64 f14), (.int .i64 f15)]), d16, (.bool (!(((f14) == 0) && (((f15) == 0) && true)))), (.int .i64 (IntKind.wrap .i64 (Int.tdiv from2 1440))), .undef, .undef, .undef, .undef, .undef, (.int .i64 0), .undef] H12 (by kernel_rfl) ?_
      refine then_norm ?_
      refine w_block ?_
      obtain ⟨J17, k18, h0, h⟩ := h
      refine w_loop (I := fun mI EI HI => ∃ (d20 : Int) (d21 : AV) (d22 : AV) (d23 : AV) (d24 : AV) (d25 : AV) (sum26 : Int) (d27 : AV), EI = [(.agg [c0, c1]), (.int .i64 from2), (.int .i64 to3), (.int .i64 0), (.agg [(.int .i64 0), (.int .i64 0)]), (.agg [c0, c1]), (.agg [(.int .i64 f14), (.int .i64 f15)]), d16, (.bool (!(((f14) == 0) && (((f15) == 0) && true)))), (.int .i64 d20), d21, d22, d23, d24, d25, (.int .i64 sum26), d27] ∧ J17 mI d20 sum26 HI) ?_ k18 ⟨_, _, _, _, _, _, _, _, rfl, h0⟩
      clear h0
      rintro m19 EI H28 ⟨d20, d21, d22, d23, d24, d25, sum26, d27, rfl, hJ⟩
      replace h := h m19 d20 sum26 H28 hJ
      clear hJ
      refine w_seq ?_
      refine w_seq ?_
      refine w_run [0, 0, 0, 0] ?_
      refine t_done [(.agg [c0, c1]), (.int .i64 from2), (.int .i64 to3), (.int .i64 0), (.agg [(.int .i64 0), (.int .i64 0)]), (.agg [c0, c1]), (.agg [(.int .i64 f14), (.int .i64 f15)]), d16, (.bool (!(((f14) == 0) && (((f15) == 0) && true)))), (.int .i64 d20), (.bool (decide ((IntKind.wrap .i64 (d20 * 1440)) < to3))), d22, d23, d24, d25, (.int .i64 sum26), d27] H28 (by kernel_rfl) ?_
      refine then_norm ?_
      refine w_cond (t := (decide ((IntKind.wrap .i64 (d20 * 1440)) < to3))) rfl (fun hc => ?_) (fun hc => ?_)
      · replace h := h.1 (is_dec.t hc)
        refine w_skip ?_
        refine then_norm ?_
        refine w_seq ?_
        refine w_block ?_
        refine w_seq ?_
        refine w_run [0, 0, 1, 1, 0] ?_
        refine t_call true ncalendar_day [(.agg [c0, c1]), (.int .i64 d20)] H28 (by kernel_rfl) h ?_
        clear h
        rintro r29 H30 h
        obtain ⟨len32, hl, h⟩ := h
        refine t_len true r29 len32 H30 (by kernel_rfl) hl ?_
        refine t_done [(.agg [c0, c1]), (.int .i64 from2), (.int .i64 to3), (.int .i64 0), (.agg [(.int .i64 0), (.int .i64 0)]), (.agg [c0, c1]), (.agg [(.int .i64 f14), (.int .i64 f15)]), d16, (.bool (!(((f14) == 0) && (((f15) == 0) && true)))), (.int .i64 d20), (.bool (decide ((IntKind.wrap .i64 (d20 * 1440)) < to3))), (.int .i64 0), (.int .i64 (len32 : Int)), d24, r29, (.int .i64 sum26), d27] H30 (by kernel_rfl) ?_
        refine then_norm ?_
        refine w_block ?_
        obtain ⟨J33, k34, h0, h⟩ := h
        refine w_loop (I := fun mI EI HI => ∃ (v36 : Int) (d37 : AV) (sum38 : Int) (d39 : AV), EI = [(.agg [c0, c1]), (.int .i64 from2), (.int .i64 to3), (.int .i64 0), (.agg [(.int .i64 0), (.int .i64 0)]), (.agg [c0, c1]), (.agg [(.int .i64 f14), (.int .i64 f15)]), d16, (.bool (!(((f14) == 0) && (((f15) == 0) && true)))), (.int .i64 d20), (.bool (decide ((IntKind.wrap .i64 (d20 * 1440)) < to3))), (.int .i64 v36), (.int .i64 (len32 : Int)), d37, r29, (.int .i64 sum38), d39] ∧ J33 mI v36 sum38 HI) ?_ k34 ⟨_, _, _, _, rfl, h0⟩
        clear h0
        rintro m35 EI H40 ⟨v36, d37, sum38, d39, rfl, hJ⟩
        replace h := h m35 v36 sum38 H40 hJ
        clear hJ
        refine w_seq ?_
        refine w_run [0] ?_
        refine t_done [(.agg [c0, c1]), (.int .i64 from2), (.int .i64 to3), (.int .i64 0), (.agg [(.int .i64 0), (.int .i64 0)]), (.agg [c0, c1]), (.agg [(.int .i64 f14), (.int .i64 f15)]), d16, (.bool (!(((f14) == 0) && (((f15) == 0) && true)))), (.int .i64 d20), (.bool (decide ((IntKind.wrap .i64 (d20 * 1440)) < to3))), (.int .i64 v36), (.int .i64 (len32 : Int)), (.bool (decide (v36 < (len32 : Int)))), r29, (.int .i64 sum38), d39] H40 (by kernel_rfl) ?_
        refine then_norm ?_
        refine w_seq ?_
        refine w_cond (t := (decide (v36 < (len32 : Int)))) rfl (fun hc => ?_) (fun hc => ?_)
        · replace h := h.1 (is_dec.t hc)
          refine w_skip ?_
          refine then_norm ?_
          refine w_seq ?_
          refine w_block ?_
          refine w_seq ?_
          refine w_run [1, 1, 1, 1] ?_
          obtain ⟨e41, e42, hg43, h⟩ := h
          refine t_idxG true 2 r29 .i64 v36 H40 (by kernel_rfl) hg43 ?_
          refine t_loadG true (some 2) 2 r29 v36 0 (.agg [(.int .i64 e41), (.int .i64 e42)]) H40 (by kernel_rfl) hg43 ?_
          obtain ⟨H44, hb⟩ : ∃ H', Dead1 H40 1 H' := ⟨_, ⟨rfl⟩⟩
          replace h := h H44 hb
          refine t_tomb true 1 (.agg [(.int .i64 0), (.int .i64 0)]) [(.int .i64 0), (.int .i64 0)] H44 H40 (by kernel_rfl) rfl hb ?_
          refine t_upd true 2 0 [(.int .i64 0), (.int .i64 0)] (.agg [(.int .i64 e41), (.int .i64 e42)]) [(.int .i64 e41), (.int .i64 e42)] [(.int .i64 e41), (.int .i64 e42)] H44 (by kernel_rfl) rfl (all_c rfl (all_c rfl all_n)) ⟨rfl, Nat.le_of_ble_eq_true (by kernel_rfl), rfl⟩ ?_
          refine t_done [(.agg [c0, c1]), (.int .i64 from2), (.int .i64 to3), (.int .i64 0), (.agg [(.int .i64 0), (.int .i64 0)]), (.agg [c0, c1]), (.agg [(.int .i64 f14), (.int .i64 f15)]), d16, (.bool (!(((f14) == 0) && (((f15) == 0) && true)))), (.int .i64 d20), (.bool (decide ((IntKind.wrap .i64 (d20 * 1440)) < to3))), (.int .i64 v36), (.int .i64 (len32 : Int)), (.bool (decide (v36 < (len32 : Int)))), r29, (.int .i64 sum38), (.agg [(.int .i64 e41), (.int .i64 e42)])] H44 (by kernel_rfl) ?_
          refine then_norm ?_
          refine w_run [0, 0, 0, 0, 0, 0, 0, 0, 0, 0, 0, 0, 0] ?_
          refine t_done [(.agg [c0, c1]), (.int .i64 from2), (.int .i64 to3), (.int .i64 0), (.agg [(.int .i64 0), (.int .i64 0)]), (.agg [c0, c1]), (.agg [(.int .i64 f14), (.int .i64 f15)]), d16, (.bool (!(((f14) == 0) && (((f15) == 0) && true)))), (.int .i64 d20), (.bool (decide ((IntKind.wrap .i64 (d20 * 1440)) < to3))), (.int .i64 v36), (.int .i64 (len32 : Int)), (.bool (decide (v36 < (len32 : Int)))), r29, (.int .i64 (IntKind.wrap .i64 (sum38 + (imax 0 (IntKind.wrap .i64 ((imin e42 to3) - (imax e41 from2))))))), (.agg [(.int .i64 e41), (.int .i64 e42)])] H44 (by kernel_rfl) ?_
          refine block_norm ?_
          refine then_norm ?_
          refine w_run [0, 0] ?_
          refine t_done [(.agg [c0, c1]), (.int .i64 from2), (.int .i64 to3), (.int .i64 0), (.agg [(.int .i64 0), (.int .i64 0)]), (.agg [c0, c1]), (.agg [(.int .i64 f14), (.int .i64 f15)]), d16, (.bool (!(((f14) == 0) && (((f15) == 0) && true)))), (.int .i64 d20), (.bool (decide ((IntKind.wrap .i64 (d20 * 1440)) < to3))), (.int .i64 (IntKind.wrap .i64 (v36 + 1))), (.int .i64 (len32 : Int)), (.bool (decide (v36 < (len32 : Int)))), r29, (.int .i64 (IntKind.wrap .i64 (sum38 + (imax 0 (IntKind.wrap .i64 ((imin e42 to3) - (imax e41 from2))))))), (.agg [(.int .i64 e41), (.int .i64 e42)])] H44 (by kernel_rfl) ?_
          obtain ⟨m', hm, h⟩ := h
          refine loop_norm ⟨m', hm, _, _, _, _, rfl, h⟩
        · replace h := h.2 (is_dec.f hc)
          refine w_exit ?_
          refine then_exit ?_
          refine loop_exit ?_
          refine block_exit ?_
          refine block_norm ?_
          refine then_norm ?_
          refine w_run [0, 0, 0] ?_
          refine t_done [(.agg [c0, c1]), (.int .i64 from2), (.int .i64 to3), (.int .i64 0), (.agg [(.int .i64 0), (.int .i64 0)]), (.agg [c0, c1]), (.agg [(.int .i64 f14), (.int .i64 f15)]), d16, (.bool (!(((f14) == 0) && (((f15) == 0) && true)))), (.int .i64 (IntKind.wrap .i64 (d20 + 1))), (.bool (decide ((IntKind.wrap .i64 (d20 * 1440)) < to3))), (.int .i64 v36), (.int .i64 (len32 : Int)), (.bool (decide (v36 < (len32 : Int)))), r29, (.int .i64 sum38), d39] H40 (by kernel_rfl) ?_
          obtain ⟨m', hm, h⟩ := h
          refine loop_norm ⟨m', hm, _, _, _, _, _, _, _, _, rfl, h⟩
      · replace h := h.2 (is_dec.f hc)
        refine w_exit ?_
        refine then_exit ?_
        refine loop_exit ?_
        refine block_exit ?_
        refine then_norm ?_
        refine w_seq ?_
        refine w_run [0, 0, 0, 1] ?_
        refine t_upd true 2 0 [(.int .i64 0), (.int .i64 0)] (.agg [(.int .i64 f14), (.int .i64 f15)]) [(.int .i64 f14), (.int .i64 f15)] [(.int .i64 f14), (.int .i64 f15)] H28 (by kernel_rfl) rfl (all_c rfl (all_c rfl all_n)) ⟨rfl, Nat.le_of_ble_eq_true (by kernel_rfl), rfl⟩ ?_
        refine t_done [(.agg [c0, c1]), (.int .i64 from2), (.int .i64 to3), (.int .i64 sum26), (.agg [(.int .i64 f14), (.int .i64 f15)]), (.agg [c0, c1]), (.agg [(.int .i64 f14), (.int .i64 f15)]), d16, (.bool (!(((f14) == 0) && (((f15) == 0) && true)))), (.int .i64 d20), (.bool (decide ((IntKind.wrap .i64 (d20 * 1440)) < to3))), d22, d23, d24, d25, (.int .i64 sum26), d27] H28 (by kernel_rfl) ?_
        refine then_norm ?_
        refine w_ret ?_
        exact body_ret (vs := [(.int .i64 sum26), (.agg [(.int .i64 f14), (.int .i64 f15)])]) _ (by kernel_rfl) rfl h

-- calendar_Add
def rf_calendar_Add (ncalendar_check ncalendar_day : Nat) : RFunc := ⟨3, 21, [.var 3, .part 4 (some 2)],
 ((.seq (.ops [⟨.tomb 1 (.var 0), none, (some 5), true⟩, ⟨.move (.k (.int .i64 0)), none, (some 3), true⟩, ⟨.tomb 1 (.k (.agg [.int .i64 0, .int .i64 0])), none, (some 4), true⟩])
 ((.seq (.ops [⟨.field 0 (some 2) (.var 5), none, none, true⟩, ⟨.move (.var 1), none, none, true⟩, ⟨.buildSlice 1 [.int .i64 0] [(0, 1, (.loc 1))] 1, none, none, true⟩, ⟨.callS ncalendar_check [(.loc 0), (.loc 2)], none, none, true⟩, ⟨.tomb 1 (.k (.agg [.int .i64 0, .int .i64 0])), none, (some 6), true⟩, ⟨.upd 2 0 (.loc 4) (.loc 3), none, (some 6), true⟩])
 ((.seq ((.seq (.ops [⟨.field 0 (some 2) (.var 6), none, none, true⟩, ⟨.build [.int .i64 0, .int .i64 0] [], none, none, true⟩, ⟨.bin .eql (.agg [.int, .int]) (.loc 0) (.loc 1), none, none, true⟩, ⟨.move (.loc 2), none, none, true⟩, ⟨.move (.var 2), none, none, true⟩, ⟨.bin .lss .no (.loc 4) (.k (.int .i64 0)), none, none, true⟩, ⟨.move (.loc 5), none, none, true⟩, ⟨.move (.var 2), none, none, true⟩, ⟨.bin .gtr .no (.loc 7) (.k (.int .i64 500000)), none, none, true⟩, ⟨.pick (.loc 6) (.k (.bool true)) (.loc 8), none, none, true⟩, ⟨.pick (.loc 3) (.loc 9) (.k (.bool false)), none, (some 7), true⟩])
 (.cond (.var 7) (.ops [⟨.build [.int .i64 0, .int .i64 0] [(0, 1, (.k (.int .i64 3))), (1, 1, (.k (.int .i64 (-21))))], none, none, true⟩, ⟨.upd 2 0 (.var 6) (.loc 0), none, (some 6), true⟩]) (.skip))))
 ((.seq ((.seq (.ops [⟨.field 0 (some 2) (.var 6), none, none, true⟩, ⟨.build [.int .i64 0, .int .i64 0] [], none, none, true⟩, ⟨.bin .neq (.agg [.int, .int]) (.loc 0) (.loc 1), none, (some 8), true⟩])
 (.cond (.var 8) ((.seq (.ops [⟨.field 0 (some 2) (.var 6), none, none, true⟩, ⟨.move (.k (.int .i64 0)), none, (some 3), false⟩, ⟨.upd 2 0 (.var 4) (.loc 0), none, (some 4), true⟩])
 (.ret))) (.skip))))
 ((.seq ((.seq (.ops [⟨.move (.var 2), none, none, true⟩, ⟨.bin .eql .no (.loc 0) (.k (.int .i64 0)), none, (some 9), true⟩])
 (.cond (.var 9) ((.seq (.ops [⟨.move (.var 1), none, none, false⟩, ⟨.field 0 (some 2) (.var 6), none, none, true⟩, ⟨.move (.loc 0), none, (some 3), false⟩, ⟨.upd 2 0 (.var 4) (.loc 1), none, (some 4), true⟩])
 (.ret))) (.skip))))
 ((.seq ((.seq (.ops [⟨.move (.var 1), none, none, true⟩, ⟨.bin .quo .no (.loc 0) (.k (.int .i64 1440)), none, none, true⟩, ⟨.move (.loc 1), none, (some 10), true⟩])
 (.block 0 (.loop ((.seq ((.seq (.ops [⟨.move (.var 10), none, none, true⟩, ⟨.bin .mul .no (.loc 0) (.k (.int .i64 1440)), none, none, true⟩, ⟨.move (.var 1), none, none, true⟩, ⟨.bin .add .no (.loc 2) (.k (.int .i64 500000)), none, none, true⟩, ⟨.bin .leq .no (.loc 1) (.loc 3), none, (some 11), true⟩])
 (.cond (.var 11) (.skip) (.exit 0))))
 ((.seq (.block 1 ((.seq (.ops [⟨.field 0 (some 2) (.var 5), none, none, true⟩, ⟨.move (.var 10), none, none, true⟩, ⟨.callS ncalendar_day [(.loc 0), (.loc 1)], none, (some 15), true⟩, ⟨.len (.loc 2), none, (some 13), true⟩, ⟨.move (.k (.int .i64 0)), none, (some 12), true⟩])
 (.block 2 (.loop ((.seq (.ops [⟨.bin .lss .no (.var 12) (.var 13), none, (some 14), true⟩])
 ((.seq (.cond (.var 14) (.skip) (.exit 2))
 ((.seq (.block 3 ((.seq (.ops [⟨.indexAddr 2 (.var 15) (.var 12), none, none, true⟩, ⟨.load (some 2) (.loc 0), none, none, true⟩, ⟨.tomb 1 (.k (.agg [.int .i64 0, .int .i64 0])), none, (some 16), true⟩, ⟨.upd 2 0 (.loc 2) (.loc 1), none, (some 16), true⟩])
 ((.seq (.ops [⟨.field 0 none (.var 16), none, none, true⟩, ⟨.field 1 none (.var 16), none, none, true⟩, ⟨.field 0 none (.var 16), none, none, true⟩, ⟨.field 0 none (.var 16), none, none, true⟩, ⟨.move (.var 1), none, none, true⟩, ⟨.max (.loc 3) [(.loc 4)], none, none, true⟩, ⟨.bin .sub .no (.loc 1) (.loc 5), none, none, true⟩, ⟨.max (.k (.int .i64 0)) [(.loc 6)], none, none, true⟩, ⟨.move (.loc 7), none, (some 17), true⟩])
 ((.seq ((.seq (.ops [⟨.move (.var 17), none, none, true⟩, ⟨.move (.var 2), none, none, true⟩, ⟨.bin .geq .no (.loc 0) (.loc 1), none, (some 18), true⟩])
 (.cond (.var 18) ((.seq ((.seq (.ops [⟨.field 0 none (.var 16), none, none, true⟩, ⟨.field 0 none (.var 16), none, none, true⟩, ⟨.move (.var 1), none, none, true⟩, ⟨.max (.loc 1) [(.loc 2)], none, none, true⟩, ⟨.move (.var 2), none, none, true⟩, ⟨.bin .add .no (.loc 3) (.loc 4), none, none, true⟩, ⟨.move (.loc 5), none, (some 19), true⟩])
 ((.seq (.ops [⟨.move (.var 19), none, none, true⟩, ⟨.move (.var 1), none, none, true⟩, ⟨.bin .add .no (.loc 1) (.k (.int .i64 500000)), none, none, true⟩, ⟨.bin .leq .no (.loc 0) (.loc 2), none, (some 20), true⟩])
 (.cond (.var 20) ((.seq (.ops [⟨.move (.var 19), none, none, false⟩, ⟨.field 0 (some 2) (.var 6), none, none, true⟩, ⟨.move (.loc 0), none, (some 3), false⟩, ⟨.upd 2 0 (.var 4) (.loc 1), none, (some 4), true⟩])
 (.ret))) (.skip))))))
 ((.seq (.ops [⟨.build [.int .i64 0, .int .i64 0] [(0, 1, (.k (.int .i64 6))), (1, 1, (.k (.int .i64 (-22))))], none, none, true⟩, ⟨.move (.k (.int .i64 0)), none, (some 3), true⟩, ⟨.upd 2 0 (.var 4) (.loc 0), none, (some 4), true⟩])
 (.ret))))) (.skip))))
 (.ops [⟨.move (.var 2), none, none, true⟩, ⟨.move (.var 17), none, none, true⟩, ⟨.bin .sub .no (.loc 0) (.loc 1), none, none, true⟩, ⟨.move (.loc 2), none, (some 2), true⟩]))))))))
 (.ops [⟨.bin .add .no (.var 12) (.k (.int .i64 1)), none, none, true⟩, ⟨.move (.loc 0), none, (some 12), true⟩]))))))))))))
 (.ops [⟨.move (.var 10), none, none, true⟩, ⟨.bin .add .no (.loc 0) (.k (.int .i64 1)), none, none, true⟩, ⟨.move (.loc 1), none, (some 10), true⟩])))))))))
 ((.seq (.ops [⟨.build [.int .i64 0, .int .i64 0] [(0, 1, (.k (.int .i64 6))), (1, 1, (.k (.int .i64 (-22))))], none, none, true⟩, ⟨.move (.k (.int .i64 0)), none, (some 3), true⟩, ⟨.upd 2 0 (.var 4) (.loc 0), none, (some 4), true⟩])
 (.ret)))))))))))))))⟩
theorem v_calendar_Add {F : Nat → Option RFunc} {me ncalendar_check ncalendar_day : Nat} (hF : F me = some (rf_calendar_Add ncalendar_check ncalendar_day)) {fl : Nat} {H : Heap} {Q : AV → Heap → Prop} (c0 : AV) (c1 : AV) (time2 : Int) (minutes3 : Int)
  (h : ∀ (H4 : Heap), Dead1 H 1 H4 → ∀ (H5 : Heap), Dead1 H4 1 H5 → ∀ (b6 : Nat) (H7 : Heap), NewB H5 1 [(.int .i64 time2)] b6 H7 → Ret F fl ncalendar_check [(.agg [c0, c1]), (.slice b6 0 1 (some 1))] H7 (fun v11 H10 => ∃ (r8 : Int) (r9 : Int), v11 = (.agg [(.int .i64 r8), (.int .i64 r9)]) ∧ ∀ (H12 : Heap), Dead1 H10 1 H12 → ∃ (R13 : Int → Int → Prop), (((((((r8 = 0) ∧ (((r9 = 0) ∧ (True))))) ∧ (((minutes3 < 0) ∨ (minutes3 > 500000))))) → R13 3 (-21)) ∧ (¬(((((r8 = 0) ∧ (((r9 = 0) ∧ (True))))) ∧ (((minutes3 < 0) ∨ (minutes3 > 500000))))) → R13 r8 r9)) ∧ (∀ (f14 : Int) (f15 : Int), R13 f14 f15 → ((¬(((f14 = 0) ∧ (((f15 = 0) ∧ (True)))))) → Q (.tuple [(.int .i64 0), (.agg [(.int .i64 f14), (.int .i64 f15)])]) H12) ∧ (¬(¬(((f14 = 0) ∧ (((f15 = 0) ∧ (True)))))) → ((minutes3 = 0) → Q (.tuple [(.int .i64 time2), (.agg [(.int .i64 f14), (.int .i64 f15)])]) H12) ∧ (¬(minutes3 = 0) → ∃ (J17 : Nat → Int → Int → Int → Int → Heap → Prop) (k18 : Nat), J17 k18 minutes3 0 0 (IntKind.wrap .i64 (Int.tdiv time2 1440)) H12 ∧ (∀ (m19 : Nat) (minutes20 : Int) (v22 : Int) (v23 : Int) (d24 : Int) (H35 : Heap), J17 m19 minutes20 v22 v23 d24 H35 → (((IntKind.wrap .i64 (d24 * 1440)) ≤ (IntKind.wrap .i64 (time2 + 500000))) → Ret F fl ncalendar_day [(.agg [c0, c1]), (.int .i64 d24)] H35 (fun r36 H37 => ∃ len39 : Nat, lenA r36 = some len39 ∧ ∃ (J40 : Nat → Int → Int → Int → Int → Heap → Prop) (k41 : Nat), J40 k41 minutes20 v22 v23 0 H37 ∧ (∀ (m42 : Nat) (minutes43 : Int) (v45 : Int) (v46 : Int) (v47 : Int) (H54 : Heap), J40 m42 minutes43 v45 v46 v47 H54 → ((v47 < (len39 : Int)) → ∃ (e55 : Int) (e56 : Int), getA H54 2 (some 2) r36 v47 0 = some (.agg [(.int .i64 e55), (.int .i64 e56)]) ∧ ∀ (H58 : Heap), Dead1 H54 1 H58 → (((imax 0 (IntKind.wrap .i64 (e56 - (imax e55 time2)))) ≥ minutes43) → (((IntKind.wrap .i64 ((imax e55 time2) + minutes43)) ≤ (IntKind.wrap .i64 (time2 + 500000))) → Q (.tuple [(.int .i64 (IntKind.wrap .i64 ((imax e55 time2) + minutes43))), (.agg [(.int .i64 f14), (.int .i64 f15)])]) H58) ∧ (¬((IntKind.wrap .i64 ((imax e55 time2) + minutes43)) ≤ (IntKind.wrap .i64 (time2 + 500000))) → Q (.tuple [(.int .i64 0), (.agg [(.int .i64 6), (.int .i64 (-22))])]) H58)) ∧ (¬((imax 0 (IntKind.wrap .i64 (e56 - (imax e55 time2)))) ≥ minutes43) → ∃ m59 : Nat, m59 < m42 ∧ J40 m59 (IntKind.wrap .i64 (minutes43 - (imax 0 (IntKind.wrap .i64 (e56 - (imax e55 time2)))))) v45 v46 (IntKind.wrap .i64 (v47 + 1)) H58)) ∧ (¬(v47 < (len39 : Int)) → ∃ m60 : Nat, m60 < m19 ∧ J17 m60 minutes43 v45 v46 (IntKind.wrap .i64 (d24 + 1)) H54)))) ∧ (¬((IntKind.wrap .i64 (d24 * 1440)) ≤ (IntKind.wrap .i64 (time2 + 500000))) → Q (.tuple [(.int .i64 0), (.agg [(.int .i64 6), (.int .i64 (-22))])]) H35))))))) : Ret F fl me [(.agg [c0, c1]), (.int .i64 time2), (.int .i64 minutes3)] H Q := by
  refine ret_intro hF rfl ?_
  refine w_seq ?_
  refine w_run [1, 0, 1] ?_
  obtain ⟨H4, hb⟩ : ∃ H', Dead1 H 1 H' := ⟨_, ⟨rfl⟩⟩
  replace h := h H4 hb
  refine t_tomb true 1 (.agg [c0, c1]) [c0, c1] H4 H (by kernel_rfl) rfl hb ?_
  obtain ⟨H5, hb⟩ : ∃ H', Dead1 H4 1 H' := ⟨_, ⟨rfl⟩⟩
  replace h := h H5 hb
  refine t_tomb true 1 (.agg [(.int .i64 0), (.int .i64 0)]) [(.int .i64 0), (.int .i64 0)] H5 H4 (by kernel_rfl) rfl hb ?_
  refine t_done [(.agg [c0, c1]), (.int .i64 time2), (.int .i64 minutes3), (.int .i64 0), (.agg [(.int .i64 0), (.int .i64 0)]), (.agg [c0, c1]), .undef, .undef, .undef, .undef, .undef, .undef, .undef, .undef, .undef, .undef, .undef, .undef, .undef, .undef, .undef] H5 (by kernel_rfl) ?_
  refine then_norm ?_
  refine w_seq ?_
  refine w_run [0, 0, 1, 1, 1, 1] ?_
  obtain ⟨b6, H7, hb⟩ : ∃ b H', NewB H5 1 [(.int .i64 time2)] b H' := ⟨_, _, rfl, rfl⟩
  replace h := h b6 H7 hb
  refine t_bs true 1 [(.int .i64 0)] [(0, 1, .loc 0)] 1 [(.int .i64 time2)] [(.int .i64 time2)] b6 H7 H5 (by kernel_rfl) (fill_c (vs := [(.int .i64 time2)]) (size := 1) rfl (by kernel_rfl) (by kernel_rfl) (by kernel_rfl)) hb ?_
  refine t_call true ncalendar_check [(.agg [c0, c1]), (.slice b6 0 1 (some 1))] H7 (by kernel_rfl) h ?_
  clear h
  rintro _ H10 ⟨r8, r9, rfl, h⟩
  obtain ⟨H12, hb⟩ : ∃ H', Dead1 H10 1 H' := ⟨_, ⟨rfl⟩⟩
  replace h := h H12 hb
  refine t_tomb true 1 (.agg [(.int .i64 0), (.int .i64 0)]) [(.int .i64 0), (.int .i64 0)] H12 H10 (by kernel_rfl) rfl hb ?_
  refine t_upd true 2 0 [(.int .i64 0), (.int .i64 0)] (.agg [(.int .i64 r8), (.int .i64 r9)]) [(.int .i64 r8), (.int .i64 r9)] [(.int .i64 r8), (.int .i64 r9)] H12 (by kernel_rfl) rfl (all_c rfl (all_c rfl all_n)) ⟨rfl, Nat.le_of_ble_eq_true (by kernel_rfl), rfl⟩ ?_
  refine t_done [(.agg [c0, c1]), (.int .i64 time2), (.int .i64 minutes3), (.int .i64 0), (.agg [(.int .i64 0), (.int .i64 0)]), (.agg [c0, c1]), (.agg [(.int .i64 r8), (.int .i64 r9)]), .undef, .undef, .undef, .undef, .undef, .undef, .undef, .undef, .undef, .undef, .undef, .undef, .undef, .undef] H12 (by kernel_rfl) ?_
  refine then_norm ?_
  refine w_seq ?_
  obtain ⟨R13, h, hK⟩ := h
  refine w_join (fun EI HI => ∃ (f14 : Int) (f15 : Int) (d16 : AV), EI = [(.agg [c0, c1]), (.int .i64 time2), (.int .i64 minutes3), (.int .i64 0), (.agg [(.int .i64 0), (.int .i64 0)]), (.agg [c0, c1]), (.agg [(.int .i64 f14), (.int .i64 f15)]), d16, .undef, .undef, .undef, .undef, .undef, .undef, .undef, .undef, .undef, .undef, .undef, .undef, .undef] ∧ H12 = HI ∧ R13 f14 f15) ?_ ?_
  · clear hK
    refine w_seq ?_
    refine w_run [0, 1, 0, 0, 0, 0, 0, 0, 0, 0, 0] ?_
    refine t_build true [(.int .i64 0), (.int .i64 0)] [] [] [(.int .i64 0), (.int .i64 0)] H12 (by kernel_rfl) (by kernel_rfl) ?_
    refine t_done [(.agg [c0, c1]), (.int .i64 time2), (.int .i64 minutes3), (.int .i64 0), (.agg [(.int .i64 0), (.int .i64 0)]), (.agg [c0, c1]), (.agg [(.int .i64 r8), (.int .i64 r9)]), (.bool ((((r8) == 0) && (((r9) == 0) && true)) && ((decide (minutes3 < 0)) || (decide (minutes3 > 500000))))), .undef, .undef, .undef, .undef, .undef, .undef, .undef, .undef, .undef, .undef, .undef, .undef, .undef] H12 (by kernel_rfl) ?_
    refine then_norm ?_
    refine w_cond (t := ((((r8) == 0) && (((r9) == 0) && true)) && ((decide (minutes3 < 0)) || (decide (minutes3 > 500000))))) rfl (fun hc => ?_) (fun hc => ?_)
    · replace h := h.1 ((is_and (is_and is_eq (is_and is_eq is_true)) (is_or is_dec is_dec)).t hc)
      refine w_run [1, 1] ?_
      refine t_build true [(.int .i64 0), (.int .i64 0)] [(0, 1, .loc 0), (1, 1, .loc 1)] [(.int .i64 3), (.int .i64 (-21))] [(.int .i64 3), (.int .i64 (-21))] H12 (by kernel_rfl) (fill_c (vs := [(.int .i64 3)]) (size := 1) rfl (by kernel_rfl) (by kernel_rfl) (fill_c (vs := [(.int .i64 (-21))]) (size := 1) rfl (by kernel_rfl) (by kernel_rfl) (by kernel_rfl))) ?_
      refine t_upd true 2 0 [(.int .i64 r8), (.int .i64 r9)] (.agg [(.int .i64 3), (.int .i64 (-21))]) [(.int .i64 3), (.int .i64 (-21))] [(.int .i64 3), (.int .i64 (-21))] H12 (by kernel_rfl) rfl (all_c rfl (all_c rfl all_n)) ⟨rfl, Nat.le_of_ble_eq_true (by kernel_rfl), rfl⟩ ?_
      refine t_done [(.agg [c0, c1]), (.int .i64 time2), (.int .i64 minutes3), (.int .i64 0), (.agg [(.int .i64 0), (.int .i64 0)]), (.agg [c0, c1]), (.agg [(.int .i64 3), (.int .i64 (-21))]), (.bool ((((r8) == 0) && (((r9) == 0) && true)) && ((decide (minutes3 < 0)) || (decide (minutes3 > 500000))))), .undef, .undef, .undef, .undef, .undef, .undef, .undef, .undef, .undef, .undef, .undef, .undef, .undef] H12 (by kernel_rfl) ?_
      refine join_norm ⟨_, _, _, rfl, rfl, h⟩
    · replace h := h.2 ((is_and (is_and is_eq (is_and is_eq is_true)) (is_or is_dec is_dec)).f hc)
      refine w_skip ?_
      refine join_norm ⟨_, _, _, rfl, rfl, h⟩
  · clear h
    rintro EI HI ⟨f14, f15, d16, rfl, rfl, hJ⟩
    have h := hK f14 f15 hJ
    clear hJ hK
    refine then_norm ?_
    refine w_seq ?_
    refine w_seq ?_
    refine w_run [0, 1, 0] ?_
    refine t_build true [(.int .i64 0), (.int .i64 0)] [] [] [(.int .i64 0), (.int .i64 0)] H12 (by kernel_rfl) (by kernel_rfl) ?_
    refine t_done [(.agg [c0, c1]), (.int .i64 time2), (.int .i64 minutes3), (.int .i64 0), (.agg [(.int .i64 0), (.int .i64 0)]), (.agg [c0, c1]), (.agg [(.int .i64 f14), (.int .i64 f15)]), d16, (.bool (!(((f14) == 0) && (((f15) == 0) && true)))), .undef, .undef, .undef, .undef, .undef, .undef, .undef, .undef, .undef, .undef, .undef, .undef] H12 (by kernel_rfl) ?_
    refine then_norm ?_
    refine w_cond (t := (!(((f14) == 0) && (((f15) == 0) && true)))) rfl (fun hc => ?_) (fun hc => ?_)
    · replace h := h.1 ((is_not (is_and is_eq (is_and is_eq is_true))).t hc)
      refine w_seq ?_
      refine w_run [0, 0, 1] ?_
      refine t_upd true 2 0 [(.int .i64 0), (.int .i64 0)] (.agg [(.int .i64 f14), (.int .i64 f15)]) [(.int .i64 f14), (.int .i64 f15)] [(.int .i64 f14), (.int .i64 f15)] H12 (by kernel_rfl) rfl (all_c rfl (all_c rfl all_n)) ⟨rfl, Nat.le_of_ble_eq_true (by kernel_rfl), rfl⟩ ?_
      refine t_done [(.agg [c0, c1]), (.int .i64 time2), (.int .i64 minutes3), (.int .i64 0), (.agg [(.int .i64 f14), (.int .i64 f15)]), (.agg [c0, c1]), (.agg [(.int .i64 f14), (.int .i64 f15)]), d16, (.bool (!(((f14) == 0) && (((f15) == 0) && true)))), .undef, .undef, .undef, .undef, .undef, .undef, .undef, .undef, .undef, .undef, .undef, .undef] H12 (by kernel_rfl) ?_
      refine then_norm ?_
      refine w_ret ?_
      refine then_ret ?_
      exact body_ret (vs := [(.int .i64 0), (.agg [(.int .i64 f14), (.int .i64 f15)])]) _ (by kernel_rfl) rfl h
    · replace h := h.2 ((is_not (is_and is_eq (is_and is_eq is_true))).f hc)
      refine w_skip ?_
      refine then_norm ?_
      refine w_seq ?_
      refine w_seq ?_
      refine w_run [0, 0] ?_
      refine t_done [(.agg [c0, c1]), (.int .i64 time2), (.int .i64 minutes3), (.int .i64 0), (.agg [(.int .i64 0), (.int .i64 0)]), (.agg [c0, c1]), (.agg [(.int .i64 f14), (.int .i64 f15)]), d16, (.bool (!(((f14) == 0) && (((f15) == 0) && true)))), (.bool ((minutes3) == 0)), .undef, .undef, .undef, .undef, .undef, .undef, .undef, .undef, .undef, .undef, .undef] H12 (by kernel_rfl) ?_
      refine then_norm ?_
      refine w_cond (t := ((minutes3) == 0)) rfl (fun hc => ?_) (fun hc => ?_)
      · replace h := h.1 (is_eq.t hc)
        refine w_seq ?_
        refine w_run [0, 0, 0, 1] ?_
        refine t_upd true 2 0 [(.int .i64 0), (.int .i64 0)] (.agg [(.int .i64 f14), (.int .i64 f15)]) [(.int .i64 f14), (.int .i64 f15)] [(.int .i64 f14), (.int .i64 f15)] H12 (by kernel_rfl) rfl (all_c rfl (all_c rfl all_n)) ⟨rfl, Nat.le_of_ble_eq_true (by kernel_rfl), rfl⟩ ?_
        refine t_done [(.agg [c0, c1]), (.int .i64 time2), (.int .i64 minutes3), (.int .i64 time2), (.agg [(.int .i64 f14), (.int .i64 f15)]), (.agg [c0, c1]), (.agg [(.int .i64 f14), (.int .i64 f15)]), d16, (.bool (!(((f14) == 0) && (((f15) == 0) && true)))), (.bool ((minutes3) == 0)), .undef, .undef, .undef, .undef, .undef, .undef, .undef, .undef, .undef, .undef, .undef] H12 (by kernel_rfl) ?_
        refine then_norm ?_
        refine w_ret ?_
        refine then_ret ?_
        exact body_ret (vs := [(.int .i64 time2), (.agg [(.int .i64 f14), (.int .i64 f15)])]) _ (by kernel_rfl) rfl h
      · replace h := h.2 (is_eq.f hc)
        refine w_skip ?_
        refine then_norm ?_
        refine w_seq ?_
        refine w_seq ?_
        refine w_run [0, 1, 0] ?_
        refine t_quo true .no .i64 time2 1440 H12 (by kernel_rfl) (by decide) ?_
        refine t_done [(.agg [c0, c1]), (.int .i64 time2), (.int .i64 minutes3), (.int .i64 0), (.agg [(.int .i64 0), (.int .i64 0)]), (.agg [c0, c1]), (.agg [(.int .i64 f14), (.int .i64 f15)]), d16, (.bool (!(((f14) == 0) && (((f15) == 0) && true)))), (.bool ((minutes3) == 0)), (.int .i64 (IntKind.wrap .i64 (Int.tdiv time2 1440))), .undef, .undef, .undef, .undef, .undef, .undef, .undef, .undef, .undef, .undef] H12 (by kernel_rfl) ?_
        refine then_norm ?_
        refine w_block ?_
        obtain ⟨J17, k18, h0, h⟩ := h
        refine w_loop (I := fun mI EI HI => ∃ (minutes20 : Int) (d21 : AV) (v22 : Int) (v23 : Int) (d24 : Int) (d25 : AV) (d26 : AV) (d27 : AV) (d28 : AV) (d29 : AV) (d30 : AV) (d31 : AV) (d32 : AV) (d33 : AV) (d34 : AV), EI = [(.agg [c0, c1]), (.int .i64 time2), (.int .i64 minutes20), d21, (.agg [(.int .i64 v22), (.int .i64 v23)]), (.agg [c0, c1]), (.agg [(.int .i64 f14), (.int .i64 f15)]), d16, (.bool (!(((f14) == 0) && (((f15) == 0) && true)))), (.bool ((minutes3) == 0)), (.int .i64 d24), d25, d26, d27, d28, d29, d30, d31, d32, d33, d34] ∧ J17 mI minutes20 v22 v23 d24 HI) ?_ k18 ⟨_, _, _, _, _, _, _, _, _, _, _, _, _, _, _, rfl, h0⟩
        clear h0
        rintro m19 EI H35 ⟨minutes20, d21, v22, v23, d24, d25, d26, d27, d28, d29, d30, d31, d32, d33, d34, rfl, hJ⟩
        replace h := h m19 minutes20 v22 v23 d24 H35 hJ
        clear hJ
        refine w_seq ?_
        refine w_seq ?_
        refine w_run [0, 0, 0, 0, 0] ?_
        refine t_done [(.agg [c0, c1]), (.int .i64 time2), (.int .i64 minutes20), d21, (.agg [(.int .i64 v22), (.int .i64 v23)]), (.agg [c0, c1]), (.agg [(.int .i64 f14), (.int .i64 f15)]), d16, (.bool (!(((f14) == 0) && (((f15) == 0) && true)))), (.bool ((minutes3) == 0)), (.int .i64 d24), (.bool (decide ((IntKind.wrap .i64 (d24 * 1440)) ≤ (IntKind.wrap .i64 (time2 + 500000))))), d26, d27, d28, d29, d30, d31, d32, d33, d34] H35 (by kernel_rfl) ?_
        refine then_norm ?_
        refine w_cond (t := (decide ((IntKind.wrap .i64 (d24 * 1440)) ≤ (IntKind.wrap .i64 (time2 + 500000))))) rfl (fun hc => ?_) (fun hc => ?_)
        · replace h := h.1 (is_dec.t hc)
          refine w_skip ?_
          refine then_norm ?_
          refine w_seq ?_
          refine w_block ?_
          refine w_seq ?_
          refine w_run [0, 0, 1, 1, 0] ?_
          refine t_call true ncalendar_day [(.agg [c0, c1]), (.int .i64 d24)] H35 (by kernel_rfl) h ?_
          clear h
          rintro r36 H37 h
          obtain ⟨len39, hl, h⟩ := h
          refine t_len true r36 len39 H37 (by kernel_rfl) hl ?_
          refine t_done [(.agg [c0, c1]), (.int .i64 time2), (.int .i64 minutes20), d21, (.agg [(.int .i64 v22), (.int .i64 v23)]), (.agg [c0, c1]), (.agg [(.int .i64 f14), (.int .i64 f15)]), d16, (.bool (!(((f14) == 0) && (((f15) == 0) && true)))), (.bool ((minutes3) == 0)), (.int .i64 d24), (.bool (decide ((IntKind.wrap .i64 (d24 * 1440)) ≤ (IntKind.wrap .i64 (time2 + 500000))))), (.int .i64 0), (.int .i64 (len39 : Int)), d28, r36, d30, d31, d32, d33, d34] H37 (by kernel_rfl) ?_
          refine then_norm ?_
          refine w_block ?_
          obtain ⟨J40, k41, h0, h⟩ := h
          refine w_loop (I := fun mI EI HI => ∃ (minutes43 : Int) (d44 : AV) (v45 : Int) (v46 : Int) (v47 : Int) (d48 : AV) (d49 : AV) (d50 : AV) (d51 : AV) (d52 : AV) (d53 : AV), EI = [(.agg [c0, c1]), (.int .i64 time2), (.int .i64 minutes43), d44, (.agg [(.int .i64 v45), (.int .i64 v46)]), (.agg [c0, c1]), (.agg [(.int .i64 f14), (.int .i64 f15)]), d16, (.bool (!(((f14) == 0) && (((f15) == 0) && true)))), (.bool ((minutes3) == 0)), (.int .i64 d24), (.bool (decide ((IntKind.wrap .i64 (d24 * 1440)) ≤ (IntKind.wrap .i64 (time2 + 500000))))), (.int .i64 v47), (.int .i64 (len39 : Int)), d48, r36, d49, d50, d51, d52, d53] ∧ J40 mI minutes43 v45 v46 v47 HI) ?_ k41 ⟨_, _, _, _, _, _, _, _, _, _, _, rfl, h0⟩
          clear h0
          rintro m42 EI H54 ⟨minutes43, d44, v45, v46, v47, d48, d49, d50, d51, d52, d53, rfl, hJ⟩
          replace h := h m42 minutes43 v45 v46 v47 H54 hJ
          clear hJ
          refine w_seq ?_
          refine w_run [0] ?_
          refine t_done [(.agg [c0, c1]), (.int .i64 time2), (.int .i64 minutes43), d44, (.agg [(.int .i64 v45), (.int .i64 v46)]), (.agg [c0, c1]), (.agg [(.int .i64 f14), (.int .i64 f15)]), d16, (.bool (!(((f14) == 0) && (((f15) == 0) && true)))), (.bool ((minutes3) == 0)), (.int .i64 d24), (.bool (decide ((IntKind.wrap .i64 (d24 * 1440)) ≤ (IntKind.wrap .i64 (time2 + 500000))))), (.int .i64 v47), (.int .i64 (len39 : Int)), (.bool (decide (v47 < (len39 : Int)))), r36, d49, d50, d51, d52, d53] H54 (by kernel_rfl) ?_
          refine then_norm ?_
          refine w_seq ?_
          refine w_cond (t := (decide (v47 < (len39 : Int)))) rfl (fun hc => ?_) (fun hc => ?_)
          · replace h := h.1 (is_dec.t hc)
            refine w_skip ?_
            refine then_norm ?_
            refine w_seq ?_
            refine w_block ?_
            refine w_seq ?_
            refine w_run [1, 1, 1, 1] ?_
            obtain ⟨e55, e56, hg57, h⟩ := h
            refine t_idxG true 2 r36 .i64 v47 H54 (by kernel_rfl) hg57 ?_
            refine t_loadG true (some 2) 2 r36 v47 0 (.agg [(.int .i64 e55), (.int .i64 e56)]) H54 (by kernel_rfl) hg57 ?_
            obtain ⟨H58, hb⟩ : ∃ H', Dead1 H54 1 H' := ⟨_, ⟨rfl⟩⟩
            replace h := h H58 hb
            refine t_tomb true 1 (.agg [(.int .i64 0), (.int .i64 0)]) [(.int .i64 0), (.int .i64 0)] H58 H54 (by kernel_rfl) rfl hb ?_
            refine t_upd true 2 0 [(.int .i64 0), (.int .i64 0)] (.agg [(.int .i64 e55), (.int .i64 e56)]) [(.int .i64 e55), (.int .i64 e56)] [(.int .i64 e55), (.int .i64 e56)] H58 (by kernel_rfl) rfl (all_c rfl (all_c rfl all_n)) ⟨rfl, Nat.le_of_ble_eq_true (by kernel_rfl), rfl⟩ ?_
            refine t_done [(.agg [c0, c1]), (.int .i64 time2), (.int .i64 minutes43), d44, (.agg [(.int .i64 v45), (.int .i64 v46)]), (.agg [c0, c1]), (.agg [(.int .i64 f14), (.int .i64 f15)]), d16, (.bool (!(((f14) == 0) && (((f15) == 0) && true)))), (.bool ((minutes3) == 0)), (.int .i64 d24), (.bool (decide ((IntKind.wrap .i64 (d24 * 1440)) ≤ (IntKind.wrap .i64 (time2 + 500000))))), (.int .i64 v47), (.int .i64 (len39 : Int)), (.bool (decide (v47 < (len39 : Int)))), r36, (.agg [(.int .i64 e55), (.int .i64 e56)]), d50, d51, d52, d53] H58 (by kernel_rfl) ?_
            refine then_norm ?_
            refine w_seq ?_
            refine w_run [0, 0, 0, 0, 0, 0, 0, 0, 0] ?_
            refine t_done [(.agg [c0, c1]), (.int .i64 time2), (.int .i64 minutes43), d44, (.agg [(.int .i64 v45), (.int .i64 v46)]), (.agg [c0, c1]), (.agg [(.int .i64 f14), (.int .i64 f15)]), d16, (.bool (!(((f14) == 0) && (((f15) == 0) && true)))), (.bool ((minutes3) == 0)), (.int .i64 d24), (.bool (decide ((IntKind.wrap .i64 (d24 * 1440)) ≤ (IntKind.wrap .i64 (time2 + 500000))))), (.int .i64 v47), (.int .i64 (len39 : Int)), (.bool (decide (v47 < (len39 : Int)))), r36, (.agg [(.int .i64 e55), (.int .i64 e56)]), (.int .i64 (imax 0 (IntKind.wrap .i64 (e56 - (imax e55 time2))))), d51, d52, d53] H58 (by kernel_rfl) ?_
            refine then_norm ?_
            refine w_seq ?_
            refine w_seq ?_
            refine w_run [0, 0, 0] ?_
            refine t_done [(.agg [c0, c1]), (.int .i64 time2), (.int .i64 minutes43), d44, (.agg [(.int .i64 v45), (.int .i64 v46)]), (.agg [c0, c1]), (.agg [(.int .i64 f14), (.int .i64 f15)]), d16, (.bool (!(((f14) == 0) && (((f15) == 0) && true)))), (.bool ((minutes3) == 0)), (.int .i64 d24), (.bool (decide ((IntKind.wrap .i64 (d24 * 1440)) ≤ (IntKind.wrap .i64 (time2 + 500000))))), (.int .i64 v47), (.int .i64 (len39 : Int)), (.bool (decide (v47 < (len39 : Int)))), r36, (.agg [(.int .i64 e55), (.int .i64 e56)]), (.int .i64 (imax 0 (IntKind.wrap .i64 (e56 - (imax e55 time2))))), (.bool (decide ((imax 0 (IntKind.wrap .i64 (e56 - (imax e55 time2)))) ≥ minutes43))), d52, d53] H58 (by kernel_rfl) ?_
            refine then_norm ?_
            refine w_cond (t := (decide ((imax 0 (IntKind.wrap .i64 (e56 - (imax e55 time2)))) ≥ minutes43))) rfl (fun hc => ?_) (fun hc => ?_)
            · replace h := h.1 (is_dec.t hc)
              refine w_seq ?_
              refine w_seq ?_
              refine w_run [0, 0, 0, 0, 0, 0, 0] ?_
              refine t_done [(.agg [c0, c1]), (.int .i64 time2), (.int .i64 minutes43), d44, (.agg [(.int .i64 v45), (.int .i64 v46)]), (.agg [c0, c1]), (.agg [(.int .i64 f14), (.int .i64 f15)]), d16, (.bool (!(((f14) == 0) && (((f15) == 0) && true)))), (.bool ((minutes3) == 0)), (.int .i64 d24), (.bool (decide ((IntKind.wrap .i64 (d24 * 1440)) ≤ (IntKind.wrap .i64 (time2 + 500000))))), (.int .i64 v47), (.int .i64 (len39 : Int)), (.bool (decide (v47 < (len39 : Int)))), r36, (.agg [(.int .i64 e55), (.int .i64 e56)]), (.int .i64 (imax 0 (IntKind.wrap .i64 (e56 - (imax e55 time2))))), (.bool (decide ((imax 0 (IntKind.wrap .i64 (e56 - (imax e55 time2)))) ≥ minutes43))), (.int .i64 (IntKind.wrap .i64 ((imax e55 time2) + minutes43))), d53] H58 (by kernel_rfl) ?_
              refine then_norm ?_
              refine w_seq ?_
              refine w_run [0, 0, 0, 0] ?_
              refine t_done [(.agg [c0, c1]), (.int .i64 time2), (.int .i64 minutes43), d44, (.agg [(.int .i64 v45), (.int .i64 v46)]), (.agg [c0, c1]), (.agg [(.int .i64 f14), (.int .i64 f15)]), d16, (.bool (!(((f14) == 0) && (((f15) == 0) && true)))), (.bool ((minutes3) == 0)), (.int .i64 d24), (.bool (decide ((IntKind.wrap .i64 (d24 * 1440)) ≤ (IntKind.wrap .i64 (time2 + 500000))))), (.int .i64 v47), (.int .i64 (len39 : Int)), (.bool (decide (v47 < (len39 : Int)))), r36, (.agg [(.int .i64 e55), (.int .i64 e56)]), (.int .i64 (imax 0 (IntKind.wrap .i64 (e56 - (imax e55 time2))))), (.bool (decide ((imax 0 (IntKind.wrap .i64 (e56 - (imax e55 time2)))) ≥ minutes43))), (.int .i64 (IntKind.wrap .i64 ((imax e55 time2) + minutes43))), (.bool (decide ((IntKind.wrap .i64 ((imax e55 time2) + minutes43)) ≤ (IntKind.wrap .i64 (time2 + 500000)))))] H58 (by kernel_rfl) ?_
              refine then_norm ?_
              refine w_cond (t := (decide ((IntKind.wrap .i64 ((imax e55 time2) + minutes43)) ≤ (IntKind.wrap .i64 (time2 + 500000))))) rfl (fun hc => ?_) (fun hc => ?_)
              · replace h := h.1 (is_dec.t hc)
                refine w_seq ?_
                refine w_run [0, 0, 0, 1] ?_
                refine t_upd true 2 0 [(.int .i64 v45), (.int .i64 v46)] (.agg [(.int .i64 f14), (.int .i64 f15)]) [(.int .i64 f14), (.int .i64 f15)] [(.int .i64 f14), (.int .i64 f15)] H58 (by kernel_rfl) rfl (all_c rfl (all_c rfl all_n)) ⟨rfl, Nat.le_of_ble_eq_true (by kernel_rfl), rfl⟩ ?_
                refine t_done [(.agg [c0, c1]), (.int .i64 time2), (.int .i64 minutes43), (.int .i64 (IntKind.wrap .i64 ((imax e55 time2) + minutes43))), (.agg [(.int .i64 f14), (.int .i64 f15)]), (.agg [c0, c1]), (.agg [(.int .i64 f14), (.int .i64 f15)]), d16, (.bool (!(((f14) == 0) && (((f15) == 0) && true)))), (.bool ((minutes3) == 0)), (.int .i64 d24), (.bool (decide ((IntKind.wrap .i64 (d24 * 1440)) ≤ (IntKind.wrap .i64 (time2 + 500000))))), (.int .i64 v47), (.int .i64 (len39 : Int)), (.bool (decide (v47 < (len39 : Int)))), r36, (.agg [(.int .i64 e55), (.int .i64 e56)]), (.int .i64 (imax 0 (IntKind.wrap .i64 (e56 - (imax e55 time2))))), (.bool (decide ((imax 0 (IntKind.wrap .i64 (e56 - (imax e55 time2)))) ≥ minutes43))), (.int .i64 (IntKind.wrap .i64 ((imax e55 time2) + minutes43))), (.bool (decide ((IntKind.wrap .i64 ((imax e55 time2) + minutes43)) ≤ (IntKind.wrap .i64 (time2 + 500000)))))] H58 (by kernel_rfl) ?_
                refine then_norm ?_
                refine w_ret ?_
                refine then_ret ?_
                refine then_ret ?_
                refine block_ret ?_
                refine then_ret ?_
                refine loop_ret ?_
                refine block_ret ?_
                refine block_ret ?_
                refine then_ret ?_
                refine loop_ret ?_
                refine block_ret ?_
                refine then_ret ?_
                exact body_ret (vs := [(.int .i64 (IntKind.wrap .i64 ((imax e55 time2) + minutes43))), (.agg [(.int .i64 f14), (.int .i64 f15)])]) _ (by kernel_rfl) rfl h
              · replace h := h.2 (is_dec.f hc)
                refine w_skip ?_
                refine then_norm ?_
                refine w_seq ?_
                refine w_run [1, 0, 1] ?_
                refine t_build true [(.int .i64 0), (.int .i64 0)] [(0, 1, .loc 0), (1, 1, .loc 1)] [(.int .i64 6), (.int .i64 (-22))] [(.int .i64 6), (.int .i64 (-22))] H58 (by kernel_rfl) (fill_c (vs := [(.int .i64 6)]) (size := 1) rfl (by kernel_rfl) (by kernel_rfl) (fill_c (vs := [(.int .i64 (-22))]) (size := 1) rfl (by kernel_rfl) (by kernel_rfl) (by kernel_rfl))) ?_
                refine t_upd true 2 0 [(.int .i64 v45), (.int .i64 v46)] (.agg [(.int .i64 6), (.int .i64 (-22))]) [(.int .i64 6), (.int .i64 (-22))] [(.int .i64 6), (.int .i64 (-22))] H58 (by kernel_rfl) rfl (all_c rfl (all_c rfl all_n)) ⟨rfl, Nat.le_of_ble_eq_true (by kernel_rfl), rfl⟩ ?_
                refine t_done [(.agg [c0, c1]), (.int .i64 time2), (.int .i64 minutes43), (.int .i64 0), (.agg [(.int .i64 6), (.int .i64 (-22))]), (.agg [c0, c1]), (.agg [(.int .i64 f14), (.int .i64 f15)]), d16, (.bool (!(((f14) == 0) && (((f15) == 0) && true)))), (.bool ((minutes3) == 0)), (.int .i64 d24), (.bool (decide ((IntKind.wrap .i64 (d24 * 1440)) ≤ (IntKind.wrap .i64 (time2 + 500000))))), (.int .i64 v47), (.int .i64 (len39 : Int)), (.bool (decide (v47 < (len39 : Int)))), r36, (.agg [(.int .i64 e55), (.int .i64 e56)]), (.int .i64 (imax 0 (IntKind.wrap .i64 (e56 - (imax e55 time2))))), (.bool (decide ((imax 0 (IntKind.wrap .i64 (e56 - (imax e55 time2)))) ≥ minutes43))), (.int .i64 (IntKind.wrap .i64 ((imax e55 time2) + minutes43))), (.bool (decide ((IntKind.wrap .i64 ((imax e55 time2) + minutes43)) ≤ (IntKind.wrap .i64 (time2 + 500000)))))] H58 (by kernel_rfl) ?_
                refine then_norm ?_
                refine w_ret ?_
                refine then_ret ?_
                refine block_ret ?_
                refine then_ret ?_
                refine loop_ret ?_
                refine block_ret ?_
                refine block_ret ?_
                refine then_ret ?_
                refine loop_ret ?_
                refine block_ret ?_
                refine then_ret ?_
                exact body_ret (vs := [(.int .i64 0), (.agg [(.int .i64 6), (.int .i64 (-22))])]) _ (by kernel_rfl) rfl h
            · replace h := h.2 (is_dec.f hc)
              refine w_skip ?_
              refine then_norm ?_
              refine w_run [0, 0, 0, 0] ?_
              refine t_done [(.agg [c0, c1]), (.int .i64 time2), (.int .i64 (IntKind.wrap .i64 (minutes43 - (imax 0 (IntKind.wrap .i64 (e56 - (imax e55 time2))))))), d44, (.agg [(.int .i64 v45), (.int .i64 v46)]), (.agg [c0, c1]), (.agg [(.int .i64 f14), (.int .i64 f15)]), d16, (.bool (!(((f14) == 0) && (((f15) == 0) && true)))), (.bool ((minutes3) == 0)), (.int .i64 d24), (.bool (decide ((IntKind.wrap .i64 (d24 * 1440)) ≤ (IntKind.wrap .i64 (time2 + 500000))))), (.int .i64 v47), (.int .i64 (len39 : Int)), (.bool (decide (v47 < (len39 : Int)))), r36, (.agg [(.int .i64 e55), (.int .i64 e56)]), (.int .i64 (imax 0 (IntKind.wrap .i64 (e56 - (imax e55 time2))))), (.bool (decide ((imax 0 (IntKind.wrap .i64 (e56 - (imax e55 time2)))) ≥ minutes43))), d52, d53] H58 (by kernel_rfl) ?_
              refine block_norm ?_
              refine then_norm ?_
              refine w_run [0, 0] ?_
              refine t_done [(.agg [c0, c1]), (.int .i64 time2), (.int .i64 (IntKind.wrap .i64 (minutes43 - (imax 0 (IntKind.wrap .i64 (e56 - (imax e55 time2))))))), d44, (.agg [(.int .i64 v45), (.int .i64 v46)]), (.agg [c0, c1]), (.agg [(.int .i64 f14), (.int .i64 f15)]), d16, (.bool (!(((f14) == 0) && (((f15) == 0) && true)))), (.bool ((minutes3) == 0)), (.int .i64 d24), (.bool (decide ((IntKind.wrap .i64 (d24 * 1440)) ≤ (IntKind.wrap .i64 (time2 + 500000))))), (.int .i64 (IntKind.wrap .i64 (v47 + 1))), (.int .i64 (len39 : Int)), (.bool (decide (v47 < (len39 : Int)))), r36, (.agg [(.int .i64 e55), (.int .i64 e56)]), (.int .i64 (imax 0 (IntKind.wrap .i64 (e56 - (imax e55 time2))))), (.bool (decide ((imax 0 (IntKind.wrap .i64 (e56 - (imax e55 time2)))) ≥ minutes43))), d52, d53] H58 (by kernel_rfl) ?_
              obtain ⟨m', hm, h⟩ := h
              refine loop_norm ⟨m', hm, _, _, _, _, _, _, _, _, _, _, _, rfl, h⟩
          · replace h := h.2 (is_dec.f hc)
            refine w_exit ?_
            refine then_exit ?_
            refine loop_exit ?_
            refine block_exit ?_
            refine block_norm ?_
            refine then_norm ?_
            refine w_run [0, 0, 0] ?_
            refine t_done [(.agg [c0, c1]), (.int .i64 time2), (.int .i64 minutes43), d44, (.agg [(.int .i64 v45), (.int .i64 v46)]), (.agg [c0, c1]), (.agg [(.int .i64 f14), (.int .i64 f15)]), d16, (.bool (!(((f14) == 0) && (((f15) == 0) && true)))), (.bool ((minutes3) == 0)), (.int .i64 (IntKind.wrap .i64 (d24 + 1))), (.bool (decide ((IntKind.wrap .i64 (d24 * 1440)) ≤ (IntKind.wrap .i64 (time2 + 500000))))), (.int .i64 v47), (.int .i64 (len39 : Int)), (.bool (decide (v47 < (len39 : Int)))), r36, d49, d50, d51, d52, d53] H54 (by kernel_rfl) ?_
            obtain ⟨m', hm, h⟩ := h
            refine loop_norm ⟨m', hm, _, _, _, _, _, _, _, _, _, _, _, _, _, _, _, rfl, h⟩
        · replace h := h.2 (is_dec.f hc)
          refine w_exit ?_
          refine then_exit ?_
          refine loop_exit ?_
          refine block_exit ?_
          refine then_norm ?_
          refine w_seq ?_
          refine w_run [1, 0, 1] ?_
          refine t_build true [(.int .i64 0), (.int .i64 0)] [(0, 1, .loc 0), (1, 1, .loc 1)] [(.int .i64 6), (.int .i64 (-22))] [(.int .i64 6), (.int .i64 (-22))] H35 (by kernel_rfl) (fill_c (vs := [(.int .i64 6)]) (size := 1) rfl (by kernel_rfl) (by kernel_rfl) (fill_c (vs := [(.int .i64 (-22))]) (size := 1) rfl (by kernel_rfl) (by kernel_rfl) (by kernel_rfl))) ?_
          refine t_upd true 2 0 [(.int .i64 v22), (.int .i64 v23)] (.agg [(.int .i64 6), (.int .i64 (-22))]) [(.int .i64 6), (.int .i64 (-22))] [(.int .i64 6), (.int .i64 (-22))] H35 (by kernel_rfl) rfl (all_c rfl (all_c rfl all_n)) ⟨rfl, Nat.le_of_ble_eq_true (by kernel_rfl), rfl⟩ ?_
          refine t_done [(.agg [c0, c1]), (.int .i64 time2), (.int .i64 minutes20), (.int .i64 0), (.agg [(.int .i64 6), (.int .i64 (-22))]), (.agg [c0, c1]), (.agg [(.int .i64 f14), (.int .i64 f15)]), d16, (.bool (!(((f14) == 0) && (((f15) == 0) && true)))), (.bool ((minutes3) == 0)), (.int .i64 d24), (.bool (decide ((IntKind.wrap .i64 (d24 * 1440)) ≤ (IntKind.wrap .i64 (time2 + 500000))))), d26, d27, d28, d29, d30, d31, d32, d33, d34] H35 (by kernel_rfl) ?_
          refine then_norm ?_
          refine w_ret ?_
          exact body_ret (vs := [(.int .i64 0), (.agg [(.int .i64 6), (.int .i64 (-22))])]) _ (by kernel_rfl) rfl h

-- calendar_Validate
def rf_calendar_Validate (ncalendar_begin ncalendar_end : Nat) : RFunc := ⟨1, 21, [.part 1 (some 2)],
 ((.seq (.ops [⟨.tomb 1 (.var 0), none, (some 2), true⟩, ⟨.tomb 1 (.k (.agg [.int .i64 0, .int .i64 0])), none, (some 1), true⟩])
 ((.seq (.block 0 ((.seq (.ops [⟨.field 0 none (.var 2), none, none, true⟩, ⟨.field 0 none (.var 2), none, none, true⟩, ⟨.len (.loc 1), none, none, true⟩, ⟨.bin .gtr .no (.loc 2) (.k (.int .i64 12)), none, none, true⟩, ⟨.move (.loc 3), none, (some 3), true⟩])
 (.cond (.var 3) ((.seq (.ops [⟨.build [.int .i64 0, .int .i64 0] [(0, 1, (.k (.int .i64 2))), (1, 1, (.k (.int .i64 (-1))))], none, none, true⟩, ⟨.upd 2 0 (.var 1) (.loc 0), none, (some 1), true⟩])
 (.ret))) ((.seq (.ops [⟨.field 0 none (.var 2), none, none, true⟩, ⟨.field 1 none (.var 2), none, none, true⟩, ⟨.len (.loc 1), none, none, true⟩, ⟨.bin .gtr .no (.loc 2) (.k (.int .i64 12)), none, none, true⟩, ⟨.move (.loc 3), none, (some 4), true⟩])
 (.cond (.var 4) ((.seq (.ops [⟨.build [.int .i64 0, .int .i64 0] [(0, 1, (.k (.int .i64 2))), (1, 1, (.k (.int .i64 (-2))))], none, none, true⟩, ⟨.upd 2 0 (.var 1) (.loc 0), none, (some 1), true⟩])
 (.ret))) (.skip))))))))
 ((.seq ((.seq (.ops [⟨.field 0 none (.var 2), none, none, true⟩, ⟨.field 0 none (.var 2), none, (some 8), true⟩, ⟨.len (.loc 1), none, (some 6), true⟩, ⟨.move (.k (.int .i64 0)), none, (some 5), true⟩])
 (.block 1 (.loop ((.seq (.ops [⟨.bin .lss .no (.var 5) (.var 6), none, (some 7), true⟩])
 ((.seq (.cond (.var 7) (.skip) (.exit 1))
 ((.seq (.block 2 ((.seq (.ops [⟨.move (.var 5), none, none, true⟩, ⟨.indexAddr 3 (.var 8) (.var 5), none, none, true⟩, ⟨.load (some 3) (.loc 1), none, none, true⟩, ⟨.tomb 1 (.k (.agg [.int .i64 0, .int .i64 0, .int .i64 0])), none, (some 9), true⟩, ⟨.move (.loc 0), none, (some 11), true⟩, ⟨.upd 3 0 (.loc 3) (.loc 2), none, (some 9), true⟩])
 (.block 3 ((.seq (.ops [⟨.field 0 none (.var 9), none, none, true⟩, ⟨.field 0 none (.var 9), none, none, true⟩, ⟨.bin .lss .no (.loc 1) (.k (.int .i64 0)), none, none, true⟩, ⟨.move (.loc 2), none, none, true⟩, ⟨.field 0 none (.var 9), none, none, true⟩, ⟨.field 0 none (.var 9), none, none, true⟩, ⟨.bin .gtr .no (.loc 5) (.k (.int .i64 6)), none, none, true⟩, ⟨.pick (.loc 3) (.k (.bool true)) (.loc 6), none, none, true⟩, ⟨.move (.loc 7), none, none, true⟩, ⟨.field 0 none (.var 9), none, none, true⟩, ⟨.field 1 none (.var 9), none, none, true⟩, ⟨.bin .lss .no (.loc 10) (.k (.int .i64 0)), none, none, true⟩, ⟨.pick (.loc 8) (.k (.bool true)) (.loc 11), none, none, true⟩, ⟨.move (.loc 12), none, none, true⟩, ⟨.field 0 none (.var 9), none, none, true⟩, ⟨.field 2 none (.var 9), none, none, true⟩, ⟨.bin .gtr .no (.loc 15) (.k (.int .i64 1440)), none, none, true⟩, ⟨.pick (.loc 13) (.k (.bool true)) (.loc 16), none, none, true⟩, ⟨.move (.loc 17), none, none, true⟩, ⟨.field 0 none (.var 9), none, none, true⟩, ⟨.field 1 none (.var 9), none, none, true⟩, ⟨.field 0 none (.var 9), none, none, true⟩, ⟨.field 2 none (.var 9), none, none, true⟩, ⟨.bin .geq .no (.loc 20) (.loc 22), none, none, true⟩, ⟨.pick (.loc 18) (.k (.bool true)) (.loc 23), none, none, true⟩, ⟨.move (.loc 24), none, (some 10), true⟩])
 (.cond (.var 10) ((.seq (.ops [⟨.move (.var 11), none, none, true⟩, ⟨.build [.int .i64 0, .int .i64 0] [(0, 1, (.k (.int .i64 3))), (1, 1, (.loc 0))], none, none, true⟩, ⟨.upd 2 0 (.var 1) (.loc 1), none, (some 1), true⟩])
 (.ret))) ((.seq (.ops [⟨.move (.var 11), none, none, true⟩, ⟨.bin .gtr .no (.loc 0) (.k (.int .i64 0)), none, none, true⟩, ⟨.move (.loc 1), none, none, true⟩, ⟨.field 0 (some 3) (.var 9), none, none, false⟩, ⟨.callS ncalendar_begin [(.loc 3)], (some (2, true)), none, false⟩, ⟨.field 0 none (.var 2), none, none, false⟩, ⟨.field 0 none (.var 2), none, none, false⟩, ⟨.move (.var 11), none, none, false⟩, ⟨.bin .sub .no (.loc 7) (.k (.int .i64 1)), none, none, false⟩, ⟨.indexAddr 3 (.loc 6) (.loc 8), (some (2, true)), none, false⟩, ⟨.load (some 3) (.loc 9), (some (2, true)), none, false⟩, ⟨.callS ncalendar_end [(.loc 10)], (some (2, true)), none, true⟩, ⟨.bin .lss .no (.loc 4) (.loc 11), (some (2, true)), none, true⟩, ⟨.pick (.loc 2) (.loc 12) (.k (.bool false)), none, none, true⟩, ⟨.move (.loc 13), none, (some 12), true⟩])
 (.cond (.var 12) ((.seq (.ops [⟨.move (.var 11), none, none, true⟩, ⟨.build [.int .i64 0, .int .i64 0] [(0, 1, (.k (.int .i64 5))), (1, 1, (.loc 0))], none, none, true⟩, ⟨.upd 2 0 (.var 1) (.loc 1), none, (some 1), true⟩])
 (.ret))) (.skip)))))))))))
 (.ops [⟨.bin .add .no (.var 5) (.k (.int .i64 1)), none, none, true⟩, ⟨.move (.loc 0), none, (some 5), true⟩])))))))))))
 ((.seq ((.seq (.ops [⟨.field 0 none (.var 2), none, none, true⟩, ⟨.field 1 none (.var 2), none, (some 16), true⟩, ⟨.len (.loc 1), none, (some 14), true⟩, ⟨.move (.k (.int .i64 0)), none, (some 13), true⟩])
 (.block 4 (.loop ((.seq (.ops [⟨.bin .lss .no (.var 13) (.var 14), none, (some 15), true⟩])
 ((.seq (.cond (.var 15) (.skip) (.exit 4))
 ((.seq (.block 5 ((.seq (.ops [⟨.move (.var 13), none, none, true⟩, ⟨.indexAddr 1 (.var 16) (.var 13), none, none, true⟩, ⟨.load none (.loc 1), none, none, true⟩, ⟨.move (.loc 0), none, (some 19), true⟩, ⟨.move (.loc 2), none, (some 17), true⟩])
 (.block 6 ((.seq (.ops [⟨.move (.var 17), none, none, true⟩, ⟨.bin .lss .no (.loc 0) (.k (.int .i64 0)), none, none, true⟩, ⟨.move (.loc 1), none, none, true⟩, ⟨.move (.var 17), none, none, true⟩, ⟨.bin .gtr .no (.loc 3) (.k (.int .i64 6944)), none, none, true⟩, ⟨.pick (.loc 2) (.k (.bool true)) (.loc 4), none, none, true⟩, ⟨.move (.loc 5), none, (some 18), true⟩])
 (.cond (.var 18) ((.seq (.ops [⟨.move (.var 19), none, none, true⟩, ⟨.bin .sub .no (.k (.int .i64 (-3))) (.loc 0), none, none, true⟩, ⟨.build [.int .i64 0, .int .i64 0] [(0, 1, (.k (.int .i64 3))), (1, 1, (.loc 1))], none, none, true⟩, ⟨.upd 2 0 (.var 1) (.loc 2), none, (some 1), true⟩])
 (.ret))) ((.seq (.ops [⟨.move (.var 19), none, none, true⟩, ⟨.bin .gtr .no (.loc 0) (.k (.int .i64 0)), none, none, true⟩, ⟨.move (.loc 1), none, none, true⟩, ⟨.move (.var 17), none, none, true⟩, ⟨.field 0 none (.var 2), none, none, true⟩, ⟨.field 1 none (.var 2), none, none, true⟩, ⟨.move (.var 19), none, none, true⟩, ⟨.bin .sub .no (.loc 6) (.k (.int .i64 1)), none, none, true⟩, ⟨.indexAddr 1 (.loc 5) (.loc 7), (some (2, true)), none, true⟩, ⟨.load none (.loc 8), (some (2, true)), none, true⟩, ⟨.bin .leq .no (.loc 3) (.loc 9), (some (2, true)), none, true⟩, ⟨.pick (.loc 2) (.loc 10) (.k (.bool false)), none, none, true⟩, ⟨.move (.loc 11), none, (some 20), true⟩])
 (.cond (.var 20) ((.seq (.ops [⟨.move (.var 19), none, none, true⟩, ⟨.bin .sub .no (.k (.int .i64 (-3))) (.loc 0), none, none, true⟩, ⟨.build [.int .i64 0, .int .i64 0] [(0, 1, (.k (.int .i64 5))), (1, 1, (.loc 1))], none, none, true⟩, ⟨.upd 2 0 (.var 1) (.loc 2), none, (some 1), true⟩])
 (.ret))) (.skip)))))))))))
 (.ops [⟨.bin .add .no (.var 13) (.k (.int .i64 1)), none, none, true⟩, ⟨.move (.loc 0), none, (some 13), true⟩])))))))))))
 ((.seq (.ops [⟨.build [.int .i64 0, .int .i64 0] [], none, none, true⟩, ⟨.upd 2 0 (.var 1) (.loc 0), none, (some 1), true⟩])
 (.ret)))))))))))⟩
theorem v_calendar_Validate {F : Nat → Option RFunc} {me ncalendar_begin ncalendar_end : Nat} (hF : F me = some (rf_calendar_Validate ncalendar_begin ncalendar_end)) {fl : Nat} {H : Heap} {Q : AV → Heap → Prop} (c0 : AV) (c1 : AV)
  (h : ∀ (H2 : Heap), Dead1 H 1 H2 → ∀ (H3 : Heap), Dead1 H2 1 H3 → ∃ len4 : Nat, lenA c0 = some len4 ∧ (((len4 : Int) > 12) → Q (.agg [(.int .i64 2), (.int .i64 (-1))]) H3) ∧ (¬((len4 : Int) > 12) → ∃ len5 : Nat, lenA c1 = some len5 ∧ (((len5 : Int) > 12) → Q (.agg [(.int .i64 2), (.int .i64 (-2))]) H3) ∧ (¬((len5 : Int) > 12) → ∃ len6 : Nat, lenA c0 = some len6 ∧ ∃ (J7 : Nat → Int → Int → Int → Heap → Prop) (k8 : Nat), J7 k8 0 0 0 H3 ∧ (∀ (m9 : Nat) (v10 : Int) (v11 : Int) (v12 : Int) (H18 : Heap), J7 m9 v10 v11 v12 H18 → ((v12 < (len6 : Int)) → ∃ (e19 : Int) (e20 : Int) (e21 : Int), getA H18 3 (some 3) c0 v12 0 = some (.agg [(.int .i64 e19), (.int .i64 e20), (.int .i64 e21)]) ∧ ∀ (H23 : Heap), Dead1 H18 1 H23 → ((((((((((e19 < 0) ∨ (e19 > 6))) ∨ (e20 < 0))) ∨ (e21 > 1440))) ∨ (e20 ≥ e21))) → Q (.agg [(.int .i64 3), (.int .i64 v12)]) H23) ∧ (¬(((((((((e19 < 0) ∨ (e19 > 6))) ∨ (e20 < 0))) ∨ (e21 > 1440))) ∨ (e20 ≥ e21))) → ((v12 > 0) → Ret F H23.length ncalendar_begin [(.agg [(.int .i64 e19), (.int .i64 e20), (.int .i64 e21)])] H23 (fun v26 H25 => ∃ (r24 : Int), v26 = (.int .i64 r24) ∧ ∃ (e27 : Int) (e28 : Int) (e29 : Int), getA H25 3 (some 3) c0 (IntKind.wrap .i64 (v12 - 1)) 0 = some (.agg [(.int .i64 e27), (.int .i64 e28), (.int .i64 e29)]) ∧ Ret F fl ncalendar_end [(.agg [(.int .i64 e27), (.int .i64 e28), (.int .i64 e29)])] H25 (fun v33 H32 => ∃ (r31 : Int), v33 = (.int .i64 r31) ∧ ((r24 < r31) → Q (.agg [(.int .i64 5), (.int .i64 v12)]) H32) ∧ (¬(r24 < r31) → ∃ m34 : Nat, m34 < m9 ∧ J7 m34 v10 v11 (IntKind.wrap .i64 (v12 + 1)) H32)))) ∧ (¬(v12 > 0) → ∃ m35 : Nat, m35 < m9 ∧ J7 m35 v10 v11 (IntKind.wrap .i64 (v12 + 1)) H23))) ∧ (¬(v12 < (len6 : Int)) → ∃ len36 : Nat, lenA c1 = some len36 ∧ ∃ (J37 : Nat → Int → Int → Int → Prop) (k38 : Nat), J37 k38 v10 v11 0 ∧ (∀ (m39 : Nat) (v40 : Int) (v41 : Int) (v42 : Int), J37 m39 v40 v41 v42 → ((v42 < (len36 : Int)) → ∃ (e48 : Int), getA H18 1 none c1 v42 0 = some (.int .i64 e48) ∧ ((((e48 < 0) ∨ (e48 > 6944))) → Q (.agg [(.int .i64 3), (.int .i64 (IntKind.wrap .i64 ((-3) - v42)))]) H18) ∧ (¬(((e48 < 0) ∨ (e48 > 6944))) → ((v42 > 0) → ∃ (e50 : Int), getA H18 1 none c1 (IntKind.wrap .i64 (v42 - 1)) 0 = some (.int .i64 e50) ∧ ((e48 ≤ e50) → Q (.agg [(.int .i64 5), (.int .i64 (IntKind.wrap .i64 ((-3) - v42)))]) H18) ∧ (¬(e48 ≤ e50) → ∃ m52 : Nat, m52 < m39 ∧ J37 m52 v40 v41 (IntKind.wrap .i64 (v42 + 1)))) ∧ (¬(v42 > 0) → ∃ m53 : Nat, m53 < m39 ∧ J37 m53 v40 v41 (IntKind.wrap .i64 (v42 + 1))))) ∧ (¬(v42 < (len36 : Int)) → Q (.agg [(.int .i64 0), (.int .i64 0)]) H18))))))) : Ret F fl me [(.agg [c0, c1])] H Q := by
  refine ret_intro hF rfl ?_
  refine w_seq ?_
  refine w_run [1, 1] ?_
  obtain ⟨H2, hb⟩ : ∃ H', Dead1 H 1 H' := ⟨_, ⟨rfl⟩⟩
  replace h := h H2 hb
  refine t_tomb true 1 (.agg [c0, c1]) [c0, c1] H2 H (by kernel_rfl) rfl hb ?_
  obtain ⟨H3, hb⟩ : ∃ H', Dead1 H2 1 H' := ⟨_, ⟨rfl⟩⟩
  replace h := h H3 hb
  refine t_tomb true 1 (.agg [(.int .i64 0), (.int .i64 0)]) [(.int .i64 0), (.int .i64 0)] H3 H2 (by kernel_rfl) rfl hb ?_
  refine t_done [(.agg [c0, c1]), (.agg [(.int .i64 0), (.int .i64 0)]), (.agg [c0, c1]), .undef, .undef, .undef, .undef, .undef, .undef, .undef, .undef, .undef, .undef, .undef, .undef, .undef, .undef, .undef, .undef, .undef, .undef] H3 (by kernel_rfl) ?_
  refine then_norm ?_
  refine w_seq ?_
  refine w_block ?_
  refine w_seq ?_
  refine w_run [0, 0, 1, 0, 0] ?_
  obtain ⟨len4, hl, h⟩ := h
  refine t_len true c0 len4 H3 (by kernel_rfl) hl ?_
  refine t_done [(.agg [c0, c1]), (.agg [(.int .i64 0), (.int .i64 0)]), (.agg [c0, c1]), (.bool (decide ((len4 : Int) > 12))), .undef, .undef, .undef, .undef, .undef, .undef, .undef, .undef, .undef, .undef, .undef, .undef, .undef, .undef, .undef, .undef, .undef] H3 (by kernel_rfl) ?_
  refine then_norm ?_
  refine w_cond (t := (decide ((len4 : Int) > 12))) rfl (fun hc => ?_) (fun hc => ?_)
  · replace h := h.1 (is_dec.t hc)
    refine w_seq ?_
    refine w_run [1, 1] ?_
    refine t_build true [(.int .i64 0), (.int .i64 0)] [(0, 1, .loc 0), (1, 1, .loc 1)] [(.int .i64 2), (.int .i64 (-1))] [(.int .i64 2), (.int .i64 (-1))] H3 (by kernel_rfl) (fill_c (vs := [(.int .i64 2)]) (size := 1) rfl (by kernel_rfl) (by kernel_rfl) (fill_c (vs := [(.int .i64 (-1))]) (size := 1) rfl (by kernel_rfl) (by kernel_rfl) (by kernel_rfl))) ?_
    refine t_upd true 2 0 [(.int .i64 0), (.int .i64 0)] (.agg [(.int .i64 2), (.int .i64 (-1))]) [(.int .i64 2), (.int .i64 (-1))] [(.int .i64 2), (.int .i64 (-1))] H3 (by kernel_rfl) rfl (all_c rfl (all_c rfl all_n)) ⟨rfl, Nat.le_of_ble_eq_true (by kernel_rfl), rfl⟩ ?_
    refine t_done [(.agg [c0, c1]), (.agg [(.int .i64 2), (.int .i64 (-1))]), (.agg [c0, c1]), (.bool (decide ((len4 : Int) > 12))), .undef, .undef, .undef, .undef, .undef, .undef, .undef, .undef, .undef, .undef, .undef, .undef, .undef, .undef, .undef, .undef, .undef] H3 (by kernel_rfl) ?_
    refine then_norm ?_
    refine w_ret ?_
    refine block_ret ?_
    refine then_ret ?_
    exact body_ret (vs := [(.agg [(.int .i64 2), (.int .i64 (-1))])]) _ (by kernel_rfl) rfl h
  · replace h := h.2 (is_dec.f hc)
    refine w_seq ?_
    refine w_run [0, 0, 1, 0, 0] ?_
    obtain ⟨len5, hl, h⟩ := h
    refine t_len true c1 len5 H3 (by kernel_rfl) hl ?_
    refine t_done [(.agg [c0, c1]), (.agg [(.int .i64 0), (.int .i64 0)]), (.agg [c0, c1]), (.bool (decide ((len4 : Int) > 12))), (.bool (decide ((len5 : Int) > 12))), .undef, .undef, .undef, .undef, .undef, .undef, .undef, .undef, .undef, .undef, .undef, .undef, .undef, .undef, .undef, .undef] H3 (by kernel_rfl) ?_
    refine then_norm ?_
    refine w_cond (t := (decide ((len5 : Int) > 12))) rfl (fun hc => ?_) (fun hc => ?_)
    · replace h := h.1 (is_dec.t hc)
      refine w_seq ?_
      refine w_run [1, 1] ?_
      refine t_build true [(.int .i64 0), (.int .i64 0)] [(0, 1, .loc 0), (1, 1, .loc 1)] [(.int .i64 2), (.int .i64 (-2))] [(.int .i64 2), (.int .i64 (-2))] H3 (by kernel_rfl) (fill_c (vs := [(.int .i64 2)]) (size := 1) rfl (by kernel_rfl) (by kernel_rfl) (fill_c (vs := [(.int .i64 (-2))]) (size := 1) rfl (by kernel_rfl) (by kernel_rfl) (by kernel_rfl))) ?_
      refine t_upd true 2 0 [(.int .i64 0), (.int .i64 0)] (.agg [(.int .i64 2), (.int .i64 (-2))]) [(.int .i64 2), (.int .i64 (-2))] [(.int .i64 2), (.int .i64 (-2))] H3 (by kernel_rfl) rfl (all_c rfl (all_c rfl all_n)) ⟨rfl, Nat.le_of_ble_eq_true (by kernel_rfl), rfl⟩ ?_
      refine t_done [(.agg [c0, c1]), (.agg [(.int .i64 2), (.int .i64 (-2))]), (.agg [c0, c1]), (.bool (decide ((len4 : Int) > 12))), (.bool (decide ((len5 : Int) > 12))), .undef, .undef, .undef, .undef, .undef, .undef, .undef, .undef, .undef, .undef, .undef, .undef, .undef, .undef, .undef, .undef] H3 (by kernel_rfl) ?_
      refine then_norm ?_
      refine w_ret ?_
      refine block_ret ?_
      refine then_ret ?_
      exact body_ret (vs := [(.agg [(.int .i64 2), (.int .i64 (-2))])]) _ (by kernel_rfl) rfl h
    · replace h := h.2 (is_dec.f hc)
      refine w_skip ?_
      refine block_norm ?_
      refine then_norm ?_
      refine w_seq ?_
      refine w_seq ?_
      refine w_run [0, 0, 1, 0] ?_
      obtain ⟨len6, hl, h⟩ := h
      refine t_len true c0 len6 H3 (by kernel_rfl) hl ?_
      refine t_done [(.agg [c0, c1]), (.agg [(.int .i64 0), (.int .i64 0)]), (.agg [c0, c1]), (.bool (decide ((len4 : Int) > 12))), (.bool (decide ((len5 : Int) > 12))), (.int .i64 0), (.int .i64 (len6 : Int)), .undef, c0, .undef, .undef, .undef, .undef, .undef, .undef, .undef, .undef, .undef, .undef, .undef, .undef] H3 (by kernel_rfl) ?_
      refine then_norm ?_
      refine w_block ?_
      obtain ⟨J7, k8, h0, h⟩ := h
      refine w_loop (I := fun mI EI HI => ∃ (v10 : Int) (v11 : Int) (v12 : Int) (d13 : AV) (d14 : AV) (d15 : AV) (d16 : AV) (d17 : AV), EI = [(.agg [c0, c1]), (.agg [(.int .i64 v10), (.int .i64 v11)]), (.agg [c0, c1]), (.bool (decide ((len4 : Int) > 12))), (.bool (decide ((len5 : Int) > 12))), (.int .i64 v12), (.int .i64 (len6 : Int)), d13, c0, d14, d15, d16, d17, .undef, .undef, .undef, .undef, .undef, .undef, .undef, .undef] ∧ J7 mI v10 v11 v12 HI) ?_ k8 ⟨_, _, _, _, _, _, _, _, rfl, h0⟩
      clear h0
      rintro m9 EI H18 ⟨v10, v11, v12, d13, d14, d15, d16, d17, rfl, hJ⟩
      replace h := h m9 v10 v11 v12 H18 hJ
      clear hJ
      refine w_seq ?_
      refine w_run [0] ?_
      refine t_done [(.agg [c0, c1]), (.agg [(.int .i64 v10), (.int .i64 v11)]), (.agg [c0, c1]), (.bool (decide ((len4 : Int) > 12))), (.bool (decide ((len5 : Int) > 12))), (.int .i64 v12), (.int .i64 (len6 : Int)), (.bool (decide (v12 < (len6 : Int)))), c0, d14, d15, d16, d17, .undef, .undef, .undef, .undef, .undef, .undef, .undef, .undef] H18 (by kernel_rfl) ?_
      refine then_norm ?_
      refine w_seq ?_
      refine w_cond (t := (decide (v12 < (len6 : Int)))) rfl (fun hc => ?_) (fun hc => ?_)
      · replace h := h.1 (is_dec.t hc)
        refine w_skip ?_
        refine then_norm ?_
        refine w_seq ?_
        refine w_block ?_
        refine w_seq ?_
        refine w_run [0, 1, 1, 1, 0, 1] ?_
        obtain ⟨e19, e20, e21, hg22, h⟩ := h
        refine t_idxG true 3 c0 .i64 v12 H18 (by kernel_rfl) hg22 ?_
        refine t_loadG true (some 3) 3 c0 v12 0 (.agg [(.int .i64 e19), (.int .i64 e20), (.int .i64 e21)]) H18 (by kernel_rfl) hg22 ?_
        obtain ⟨H23, hb⟩ : ∃ H', Dead1 H18 1 H' := ⟨_, ⟨rfl⟩⟩
        replace h := h H23 hb
        refine t_tomb true 1 (.agg [(.int .i64 0), (.int .i64 0), (.int .i64 0)]) [(.int .i64 0), (.int .i64 0), (.int .i64 0)] H23 H18 (by kernel_rfl) rfl hb ?_
        refine t_upd true 3 0 [(.int .i64 0), (.int .i64 0), (.int .i64 0)] (.agg [(.int .i64 e19), (.int .i64 e20), (.int .i64 e21)]) [(.int .i64 e19), (.int .i64 e20), (.int .i64 e21)] [(.int .i64 e19), (.int .i64 e20), (.int .i64 e21)] H23 (by kernel_rfl) rfl (all_c rfl (all_c rfl (all_c rfl all_n))) ⟨rfl, Nat.le_of_ble_eq_true (by kernel_rfl), rfl⟩ ?_
        refine t_done [(.agg [c0, c1]), (.agg [(.int .i64 v10), (.int .i64 v11)]), (.agg [c0, c1]), (.bool (decide ((len4 : Int) > 12))), (.bool (decide ((len5 : Int) > 12))), (.int .i64 v12), (.int .i64 (len6 : Int)), (.bool (decide (v12 < (len6 : Int)))), c0, (.agg [(.int .i64 e19), (.int .i64 e20), (.int .i64 e21)]), d15, (.int .i64 v12), d17, .undef, .undef, .undef, .undef, .undef, .undef, .undef, .undef] H23 (by kernel_rfl) ?_
        refine then_norm ?_
        refine w_block ?_
        refine w_seq ?_
        refine w_run [0, 0, 0, 0, 0, 0, 0, 0, 0, 0, 0, 0, 0, 0, 0, 0, 0, 0, 0, 0, 0, 0, 0, 0, 0, 0] ?_
        refine t_done [(.agg [c0, c1]), (.agg [(.int .i64 v10), (.int .i64 v11)]), (.agg [c0, c1]), (.bool (decide ((len4 : Int) > 12))), (.bool (decide ((len5 : Int) > 12))), (.int .i64 v12), (.int .i64 (len6 : Int)), (.bool (decide (v12 < (len6 : Int)))), c0, (.agg [(.int .i64 e19), (.int .i64 e20), (.int .i64 e21)]), (.bool (((((decide (e19 < 0)) || (decide (e19 > 6))) || (decide (e20 < 0))) || (decide (e21 > 1440))) || (decide (e20 ≥ e21)))), (.int .i64 v12), d17, .undef, .undef, .undef, .undef, .undef, .undef, .undef, .undef] H23 (by kernel_rfl) ?_
        refine then_norm ?_
        refine w_cond (t := (((((decide (e19 < 0)) || (decide (e19 > 6))) || (decide (e20 < 0))) || (decide (e21 > 1440))) || (decide (e20 ≥ e21)))) rfl (fun hc => ?_) (fun hc => ?_)
        · replace h := h.1 ((is_or (is_or (is_or (is_or is_dec is_dec) is_dec) is_dec) is_dec).t hc)
          refine w_seq ?_
          refine w_run [0, 1, 1] ?_
          refine t_build true [(.int .i64 0), (.int .i64 0)] [(0, 1, .loc 0), (1, 1, .loc 1)] [(.int .i64 3), (.int .i64 v12)] [(.int .i64 3), (.int .i64 v12)] H23 (by kernel_rfl) (fill_c (vs := [(.int .i64 3)]) (size := 1) rfl (by kernel_rfl) (by kernel_rfl) (fill_c (vs := [(.int .i64 v12)]) (size := 1) rfl (by kernel_rfl) (by kernel_rfl) (by kernel_rfl))) ?_
          refine t_upd true 2 0 [(.int .i64 v10), (.int .i64 v11)] (.agg [(.int .i64 3), (.int .i64 v12)]) [(.int .i64 3), (.int .i64 v12)] [(.int .i64 3), (.int .i64 v12)] H23 (by kernel_rfl) rfl (all_c rfl (all_c rfl all_n)) ⟨rfl, Nat.le_of_ble_eq_true (by kernel_rfl), rfl⟩ ?_
          refine t_done [(.agg [c0, c1]), (.agg [(.int .i64 3), (.int .i64 v12)]), (.agg [c0, c1]), (.bool (decide ((len4 : Int) > 12))), (.bool (decide ((len5 : Int) > 12))), (.int .i64 v12), (.int .i64 (len6 : Int)), (.bool (decide (v12 < (len6 : Int)))), c0, (.agg [(.int .i64 e19), (.int .i64 e20), (.int .i64 e21)]), (.bool (((((decide (e19 < 0)) || (decide (e19 > 6))) || (decide (e20 < 0))) || (decide (e21 > 1440))) || (decide (e20 ≥ e21)))), (.int .i64 v12), d17, .undef, .undef, .undef, .undef, .undef, .undef, .undef, .undef] H23 (by kernel_rfl) ?_
          refine then_norm ?_
          refine w_ret ?_
          refine block_ret ?_
          refine block_ret ?_
          refine then_ret ?_
          refine loop_ret ?_
          refine block_ret ?_
          refine then_ret ?_
          exact body_ret (vs := [(.agg [(.int .i64 3), (.int .i64 v12)])]) _ (by kernel_rfl) rfl h
        · replace h := h.2 ((is_or (is_or (is_or (is_or is_dec is_dec) is_dec) is_dec) is_dec).f hc)
          refine w_seq ?_
          refine w_run [0, 0, 0, 0, 3, 0, 0, 0, 0, 3, 3, 3, 2, 0, 0] ?_
          refine t_gd (decide (v12 > 0)) true (by kernel_rfl) (fun hc => ?_) (fun hc => ?_)
          · replace h := h.1 (is_dec.t hc)
            refine t_call false ncalendar_begin [(.agg [(.int .i64 e19), (.int .i64 e20), (.int .i64 e21)])] H23 (by kernel_rfl) h ?_
            clear h
            rintro _ H25 ⟨r24, rfl, h⟩
            refine t_gd true true (by kernel_rfl) (fun _ => ?_) (fun hn => by cases hn)
            obtain ⟨e27, e28, e29, hg30, h⟩ := h
            refine t_idxG false 3 c0 .i64 (IntKind.wrap .i64 (v12 - 1)) H25 (by kernel_rfl) hg30 ?_
            refine t_gd true true (by kernel_rfl) (fun _ => ?_) (fun hn => by cases hn)
            refine t_loadG false (some 3) 3 c0 (IntKind.wrap .i64 (v12 - 1)) 0 (.agg [(.int .i64 e27), (.int .i64 e28), (.int .i64 e29)]) H25 (by kernel_rfl) hg30 ?_
            refine t_gd true true (by kernel_rfl) (fun _ => ?_) (fun hn => by cases hn)
            refine t_call true ncalendar_end [(.agg [(.int .i64 e27), (.int .i64 e28), (.int .i64 e29)])] H25 (by kernel_rfl) h ?_
            clear h
            rintro _ H32 ⟨r31, rfl, h⟩
            refine t_gd true true (by kernel_rfl) (fun _ => ?_) (fun hn => by cases hn)
            refine t_done [(.agg [c0, c1]), (.agg [(.int .i64 v10), (.int .i64 v11)]), (.agg [c0, c1]), (.bool (decide ((len4 : Int) > 12))), (.bool (decide ((len5 : Int) > 12))), (.int .i64 v12), (.int .i64 (len6 : Int)), (.bool (decide (v12 < (len6 : Int)))), c0, (.agg [(.int .i64 e19), (.int .i64 e20), (.int .i64 e21)]), (.bool (((((decide (e19 < 0)) || (decide (e19 > 6))) || (decide (e20 < 0))) || (decide (e21 > 1440))) || (decide (e20 ≥ e21)))), (.int .i64 v12), (.bool (decide (r24 < r31))), .undef, .undef, .undef, .undef, .undef, .undef, .undef, .undef] H32 (by kernel_rfl) ?_
            refine then_norm ?_
            refine w_cond (t := (decide (r24 < r31))) rfl (fun hc => ?_) (fun hc => ?_)
            · replace h := h.1 (is_dec.t hc)
              refine w_seq ?_
              refine w_run [0, 1, 1] ?_
              refine t_build true [(.int .i64 0), (.int .i64 0)] [(0, 1, .loc 0), (1, 1, .loc 1)] [(.int .i64 5), (.int .i64 v12)] [(.int .i64 5), (.int .i64 v12)] H32 (by kernel_rfl) (fill_c (vs := [(.int .i64 5)]) (size := 1) rfl (by kernel_rfl) (by kernel_rfl) (fill_c (vs := [(.int .i64 v12)]) (size := 1) rfl (by kernel_rfl) (by kernel_rfl) (by kernel_rfl))) ?_
              refine t_upd true 2 0 [(.int .i64 v10), (.int .i64 v11)] (.agg [(.int .i64 5), (.int .i64 v12)]) [(.int .i64 5), (.int .i64 v12)] [(.int .i64 5), (.int .i64 v12)] H32 (by kernel_rfl) rfl (all_c rfl (all_c rfl all_n)) ⟨rfl, Nat.le_of_ble_eq_true (by kernel_rfl), rfl⟩ ?_
              refine t_done [(.agg [c0, c1]), (.agg [(.int .i64 5), (.int .i64 v12)]), (.agg [c0, c1]), (.bool (decide ((len4 : Int) > 12))), (.bool (decide ((len5 : Int) > 12))), (.int .i64 v12), (.int .i64 (len6 : Int)), (.bool (decide (v12 < (len6 : Int)))), c0, (.agg [(.int .i64 e19), (.int .i64 e20), (.int .i64 e21)]), (.bool (((((decide (e19 < 0)) || (decide (e19 > 6))) || (decide (e20 < 0))) || (decide (e21 > 1440))) || (decide (e20 ≥ e21)))), (.int .i64 v12), (.bool (decide (r24 < r31))), .undef, .undef, .undef, .undef, .undef, .undef, .undef, .undef] H32 (by kernel_rfl) ?_
              refine then_norm ?_
              refine w_ret ?_
              refine block_ret ?_
              refine block_ret ?_
              refine then_ret ?_
              refine loop_ret ?_
              refine block_ret ?_
              refine then_ret ?_
              exact body_ret (vs := [(.agg [(.int .i64 5), (.int .i64 v12)])]) _ (by kernel_rfl) rfl h
            · replace h := h.2 (is_dec.f hc)
              refine w_skip ?_
              refine block_norm ?_
              refine block_norm ?_
              refine then_norm ?_
              refine w_run [0, 0] ?_
              refine t_done [(.agg [c0, c1]), (.agg [(.int .i64 v10), (.int .i64 v11)]), (.agg [c0, c1]), (.bool (decide ((len4 : Int) > 12))), (.bool (decide ((len5 : Int) > 12))), (.int .i64 (IntKind.wrap .i64 (v12 + 1))), (.int .i64 (len6 : Int)), (.bool (decide (v12 < (len6 : Int)))), c0, (.agg [(.int .i64 e19), (.int .i64 e20), (.int .i64 e21)]), (.bool (((((decide (e19 < 0)) || (decide (e19 > 6))) || (decide (e20 < 0))) || (decide (e21 > 1440))) || (decide (e20 ≥ e21)))), (.int .i64 v12), (.bool (decide (r24 < r31))), .undef, .undef, .undef, .undef, .undef, .undef, .undef, .undef] H32 (by kernel_rfl) ?_
              obtain ⟨m', hm, h⟩ := h
              refine loop_norm ⟨m', hm, _, _, _, _, _, _, _, _, rfl, h⟩
          · replace h := h.2 (is_dec.f hc)
            refine t_gd false true (by kernel_rfl) (fun hn => by cases hn) (fun _ => ?_)
            refine t_gd false true (by kernel_rfl) (fun hn => by cases hn) (fun _ => ?_)
            refine t_gd false true (by kernel_rfl) (fun hn => by cases hn) (fun _ => ?_)
            refine t_gd false true (by kernel_rfl) (fun hn => by cases hn) (fun _ => ?_)
            refine t_done [(.agg [c0, c1]), (.agg [(.int .i64 v10), (.int .i64 v11)]), (.agg [c0, c1]), (.bool (decide ((len4 : Int) > 12))), (.bool (decide ((len5 : Int) > 12))), (.int .i64 v12), (.int .i64 (len6 : Int)), (.bool (decide (v12 < (len6 : Int)))), c0, (.agg [(.int .i64 e19), (.int .i64 e20), (.int .i64 e21)]), (.bool (((((decide (e19 < 0)) || (decide (e19 > 6))) || (decide (e20 < 0))) || (decide (e21 > 1440))) || (decide (e20 ≥ e21)))), (.int .i64 v12), (.bool false), .undef, .undef, .undef, .undef, .undef, .undef, .undef, .undef] H23 (by kernel_rfl) ?_
            refine then_norm ?_
            refine w_cond (t := false) rfl (fun hc => by cases hc) (fun _ => ?_)
            refine w_skip ?_
            refine block_norm ?_
            refine block_norm ?_
            refine then_norm ?_
            refine w_run [0, 0] ?_
            refine t_done [(.agg [c0, c1]), (.agg [(.int .i64 v10), (.int .i64 v11)]), (.agg [c0, c1]), (.bool (decide ((len4 : Int) > 12))), (.bool (decide ((len5 : Int) > 12))), (.int .i64 (IntKind.wrap .i64 (v12 + 1))), (.int .i64 (len6 : Int)), (.bool (decide (v12 < (len6 : Int)))), c0, (.agg [(.int .i64 e19), (.int .i64 e20), (.int .i64 e21)]), (.bool (((((decide (e19 < 0)) || (decide (e19 > 6))) || (decide (e20 < 0))) || (decide (e21 > 1440))) || (decide (e20 ≥ e21)))), (.int .i64 v12), (.bool false), .undef, .undef, .undef, .undef, .undef, .undef, .undef, .undef] H23 (by kernel_rfl) ?_
            obtain ⟨m', hm, h⟩ := h
            refine loop_norm ⟨m', hm, _, _, _, _, _, _, _, _, rfl, h⟩
      · replace h := h.2 (is_dec.f hc)
        refine w_exit ?_
        refine then_exit ?_
        refine loop_exit ?_
        refine block_exit ?_
        refine then_norm ?_
        refine w_seq ?_
        refine w_seq ?_
        refine w_run [0, 0, 1, 0] ?_
        obtain ⟨len36, hl, h⟩ := h
        refine t_len true c1 len36 H18 (by kernel_rfl) hl ?_
        refine t_done [(.agg [c0, c1]), (.agg [(.int .i64 v10), (.int .i64 v11)]), (.agg [c0, c1]), (.bool (decide ((len4 : Int) > 12))), (.bool (decide ((len5 : Int) > 12))), (.int .i64 v12), (.int .i64 (len6 : Int)), (.bool (decide (v12 < (len6 : Int)))), c0, d14, d15, d16, d17, (.int .i64 0), (.int .i64 (len36 : Int)), .undef, c1, .undef, .undef, .undef, .undef] H18 (by kernel_rfl) ?_
        refine then_norm ?_
        refine w_block ?_
        obtain ⟨J37, k38, h0, h⟩ := h
        refine w_loop (I := fun mI EI HI => ∃ (v40 : Int) (v41 : Int) (v42 : Int) (d43 : AV) (d44 : AV) (d45 : AV) (d46 : AV) (d47 : AV), EI = [(.agg [c0, c1]), (.agg [(.int .i64 v40), (.int .i64 v41)]), (.agg [c0, c1]), (.bool (decide ((len4 : Int) > 12))), (.bool (decide ((len5 : Int) > 12))), (.int .i64 v12), (.int .i64 (len6 : Int)), (.bool (decide (v12 < (len6 : Int)))), c0, d14, d15, d16, d17, (.int .i64 v42), (.int .i64 (len36 : Int)), d43, c1, d44, d45, d46, d47] ∧ H18 = HI ∧ J37 mI v40 v41 v42) ?_ k38 ⟨_, _, _, _, _, _, _, _, rfl, rfl, h0⟩
        clear h0
        rintro m39 EI HI ⟨v40, v41, v42, d43, d44, d45, d46, d47, rfl, rfl, hJ⟩
        replace h := h m39 v40 v41 v42  hJ
        clear hJ
        refine w_seq ?_
        refine w_run [0] ?_
        refine t_done [(.agg [c0, c1]), (.agg [(.int .i64 v40), (.int .i64 v41)]), (.agg [c0, c1]), (.bool (decide ((len4 : Int) > 12))), (.bool (decide ((len5 : Int) > 12))), (.int .i64 v12), (.int .i64 (len6 : Int)), (.bool (decide (v12 < (len6 : Int)))), c0, d14, d15, d16, d17, (.int .i64 v42), (.int .i64 (len36 : Int)), (.bool (decide (v42 < (len36 : Int)))), c1, d44, d45, d46, d47] H18 (by kernel_rfl) ?_
        refine then_norm ?_
        refine w_seq ?_
        refine w_cond (t := (decide (v42 < (len36 : Int)))) rfl (fun hc => ?_) (fun hc => ?_)
        · replace h := h.1 (is_dec.t hc)
          refine w_skip ?_
          refine then_norm ?_
          refine w_seq ?_
          refine w_block ?_
          refine w_seq ?_
          refine w_run [0, 1, 1, 0, 0] ?_
          obtain ⟨e48, hg49, h⟩ := h
          refine t_idxG true 1 c1 .i64 v42 H18 (by kernel_rfl) hg49 ?_
          refine t_loadG true none 1 c1 v42 0 (.int .i64 e48) H18 (by kernel_rfl) hg49 ?_
          refine t_done [(.agg [c0, c1]), (.agg [(.int .i64 v40), (.int .i64 v41)]), (.agg [c0, c1]), (.bool (decide ((len4 : Int) > 12))), (.bool (decide ((len5 : Int) > 12))), (.int .i64 v12), (.int .i64 (len6 : Int)), (.bool (decide (v12 < (len6 : Int)))), c0, d14, d15, d16, d17, (.int .i64 v42), (.int .i64 (len36 : Int)), (.bool (decide (v42 < (len36 : Int)))), c1, (.int .i64 e48), d45, (.int .i64 v42), d47] H18 (by kernel_rfl) ?_
          refine then_norm ?_
          refine w_block ?_
          refine w_seq ?_
          refine w_run [0, 0, 0, 0, 0, 0, 0] ?_
          refine t_done [(.agg [c0, c1]), (.agg [(.int .i64 v40), (.int .i64 v41)]), (.agg [c0, c1]), (.bool (decide ((len4 : Int) > 12))), (.bool (decide ((len5 : Int) > 12))), (.int .i64 v12), (.int .i64 (len6 : Int)), (.bool (decide (v12 < (len6 : Int)))), c0, d14, d15, d16, d17, (.int .i64 v42), (.int .i64 (len36 : Int)), (.bool (decide (v42 < (len36 : Int)))), c1, (.int .i64 e48), (.bool ((decide (e48 < 0)) || (decide (e48 > 6944)))), (.int .i64 v42), d47] H18 (by kernel_rfl) ?_
          refine then_norm ?_
          refine w_cond (t := ((decide (e48 < 0)) || (decide (e48 > 6944)))) rfl (fun hc => ?_) (fun hc => ?_)
          · replace h := h.1 ((is_or is_dec is_dec).t hc)
            refine w_seq ?_
            refine w_run [0, 0, 1, 1] ?_
            refine t_build true [(.int .i64 0), (.int .i64 0)] [(0, 1, .loc 0), (1, 1, .loc 1)] [(.int .i64 3), (.int .i64 (IntKind.wrap .i64 ((-3) - v42)))] [(.int .i64 3), (.int .i64 (IntKind.wrap .i64 ((-3) - v42)))] H18 (by kernel_rfl) (fill_c (vs := [(.int .i64 3)]) (size := 1) rfl (by kernel_rfl) (by kernel_rfl) (fill_c (vs := [(.int .i64 (IntKind.wrap .i64 ((-3) - v42)))]) (size := 1) rfl (by kernel_rfl) (by kernel_rfl) (by kernel_rfl))) ?_
            refine t_upd true 2 0 [(.int .i64 v40), (.int .i64 v41)] (.agg [(.int .i64 3), (.int .i64 (IntKind.wrap .i64 ((-3) - v42)))]) [(.int .i64 3), (.int .i64 (IntKind.wrap .i64 ((-3) - v42)))] [(.int .i64 3), (.int .i64 (IntKind.wrap .i64 ((-3) - v42)))] H18 (by kernel_rfl) rfl (all_c rfl (all_c rfl all_n)) ⟨rfl, Nat.le_of_ble_eq_true (by kernel_rfl), rfl⟩ ?_
            refine t_done [(.agg [c0, c1]), (.agg [(.int .i64 3), (.int .i64 (IntKind.wrap .i64 ((-3) - v42)))]), (.agg [c0, c1]), (.bool (decide ((len4 : Int) > 12))), (.bool (decide ((len5 : Int) > 12))), (.int .i64 v12), (.int .i64 (len6 : Int)), (.bool (decide (v12 < (len6 : Int)))), c0, d14, d15, d16, d17, (.int .i64 v42), (.int .i64 (len36 : Int)), (.bool (decide (v42 < (len36 : Int)))), c1, (.int .i64 e48), (.bool ((decide (e48 < 0)) || (decide (e48 > 6944)))), (.int .i64 v42), d47] H18 (by kernel_rfl) ?_
            refine then_norm ?_
            refine w_ret ?_
            refine block_ret ?_
            refine block_ret ?_
            refine then_ret ?_
            refine loop_ret ?_
            refine block_ret ?_
            refine then_ret ?_
            exact body_ret (vs := [(.agg [(.int .i64 3), (.int .i64 (IntKind.wrap .i64 ((-3) - v42)))])]) _ (by kernel_rfl) rfl h
          · replace h := h.2 ((is_or is_dec is_dec).f hc)
            refine w_seq ?_
            refine w_run [0, 0, 0, 0, 0, 0, 0, 0, 3, 3, 2, 0, 0] ?_
            refine t_gd (decide (v42 > 0)) true (by kernel_rfl) (fun hc => ?_) (fun hc => ?_)
            · replace h := h.1 (is_dec.t hc)
              obtain ⟨e50, hg51, h⟩ := h
              refine t_idxG true 1 c1 .i64 (IntKind.wrap .i64 (v42 - 1)) H18 (by kernel_rfl) hg51 ?_
              refine t_gd true true (by kernel_rfl) (fun _ => ?_) (fun hn => by cases hn)
              refine t_loadG true none 1 c1 (IntKind.wrap .i64 (v42 - 1)) 0 (.int .i64 e50) H18 (by kernel_rfl) hg51 ?_
              refine t_gd true true (by kernel_rfl) (fun _ => ?_) (fun hn => by cases hn)
              refine t_done [(.agg [c0, c1]), (.agg [(.int .i64 v40), (.int .i64 v41)]), (.agg [c0, c1]), (.bool (decide ((len4 : Int) > 12))), (.bool (decide ((len5 : Int) > 12))), (.int .i64 v12), (.int .i64 (len6 : Int)), (.bool (decide (v12 < (len6 : Int)))), c0, d14, d15, d16, d17, (.int .i64 v42), (.int .i64 (len36 : Int)), (.bool (decide (v42 < (len36 : Int)))), c1, (.int .i64 e48), (.bool ((decide (e48 < 0)) || (decide (e48 > 6944)))), (.int .i64 v42), (.bool (decide (e48 ≤ e50)))] H18 (by kernel_rfl) ?_
              refine then_norm ?_
              refine w_cond (t := (decide (e48 ≤ e50))) rfl (fun hc => ?_) (fun hc => ?_)
              · replace h := h.1 (is_dec.t hc)
                refine w_seq ?_
                refine w_run [0, 0, 1, 1] ?_
                refine t_build true [(.int .i64 0), (.int .i64 0)] [(0, 1, .loc 0), (1, 1, .loc 1)] [(.int .i64 5), (.int .i64 (IntKind.wrap .i64 ((-3) - v42)))] [(.int .i64 5), (.int .i64 (IntKind.wrap .i64 ((-3) - v42)))] H18 (by kernel_rfl) (fill_c (vs := [(.int .i64 5)]) (size := 1) rfl (by kernel_rfl) (by kernel_rfl) (fill_c (vs := [(.int .i64 (IntKind.wrap .i64 ((-3) - v42)))]) (size := 1) rfl (by kernel_rfl) (by kernel_rfl) (by kernel_rfl))) ?_
                refine t_upd true 2 0 [(.int .i64 v40), (.int .i64 v41)] (.agg [(.int .i64 5), (.int .i64 (IntKind.wrap .i64 ((-3) - v42)))]) [(.int .i64 5), (.int .i64 (IntKind.wrap .i64 ((-3) - v42)))] [(.int .i64 5), (.int .i64 (IntKind.wrap .i64 ((-3) - v42)))] H18 (by kernel_rfl) rfl (all_c rfl (all_c rfl all_n)) ⟨rfl, Nat.le_of_ble_eq_true (by kernel_rfl), rfl⟩ ?_
                refine t_done [(.agg [c0, c1]), (.agg [(.int .i64 5), (.int .i64 (IntKind.wrap .i64 ((-3) - v42)))]), (.agg [c0, c1]), (.bool (decide ((len4 : Int) > 12))), (.bool (decide ((len5 : Int) > 12))), (.int .i64 v12), (.int .i64 (len6 : Int)), (.bool (decide (v12 < (len6 : Int)))), c0, d14, d15, d16, d17, (.int .i64 v42), (.int .i64 (len36 : Int)), (.bool (decide (v42 < (len36 : Int)))), c1, (.int .i64 e48), (.bool ((decide (e48 < 0)) || (decide (e48 > 6944)))), (.int .i64 v42), (.bool (decide (e48 ≤ e50)))] H18 (by kernel_rfl) ?_
                refine then_norm ?_
                refine w_ret ?_
                refine block_ret ?_
                refine block_ret ?_
                refine then_ret ?_
                refine loop_ret ?_
                refine block_ret ?_
                refine then_ret ?_
                exact body_ret (vs := [(.agg [(.int .i64 5), (.int .i64 (IntKind.wrap .i64 ((-3) - v42)))])]) _ (by kernel_rfl) rfl h
              · replace h := h.2 (is_dec.f hc)
                refine w_skip ?_
                refine block_norm ?_
                refine block_norm ?_
                refine then_norm ?_
                refine w_run [0, 0] ?_
                refine t_done [(.agg [c0, c1]), (.agg [(.int .i64 v40), (.int .i64 v41)]), (.agg [c0, c1]), (.bool (decide ((len4 : Int) > 12))), (.bool (decide ((len5 : Int) > 12))), (.int .i64 v12), (.int .i64 (len6 : Int)), (.bool (decide (v12 < (len6 : Int)))), c0, d14, d15, d16, d17, (.int .i64 (IntKind.wrap .i64 (v42 + 1))), (.int .i64 (len36 : Int)), (.bool (decide (v42 < (len36 : Int)))), c1, (.int .i64 e48), (.bool ((decide (e48 < 0)) || (decide (e48 > 6944)))), (.int .i64 v42), (.bool (decide (e48 ≤ e50)))] H18 (by kernel_rfl) ?_
                obtain ⟨m', hm, h⟩ := h
                refine loop_norm ⟨m', hm, _, _, _, _, _, _, _, _, rfl, rfl, h⟩
            · replace h := h.2 (is_dec.f hc)
              refine t_gd false true (by kernel_rfl) (fun hn => by cases hn) (fun _ => ?_)
              refine t_gd false true (by kernel_rfl) (fun hn => by cases hn) (fun _ => ?_)
              refine t_done [(.agg [c0, c1]), (.agg [(.int .i64 v40), (.int .i64 v41)]), (.agg [c0, c1]), (.bool (decide ((len4 : Int) > 12))), (.bool (decide ((len5 : Int) > 12))), (.int .i64 v12), (.int .i64 (len6 : Int)), (.bool (decide (v12 < (len6 : Int)))), c0, d14, d15, d16, d17, (.int .i64 v42), (.int .i64 (len36 : Int)), (.bool (decide (v42 < (len36 : Int)))), c1, (.int .i64 e48), (.bool ((decide (e48 < 0)) || (decide (e48 > 6944)))), (.int .i64 v42), (.bool false)] H18 (by kernel_rfl) ?_
              refine then_norm ?_
              refine w_cond (t := false) rfl (fun hc => by cases hc) (fun _ => ?_)
              refine w_skip ?_
              refine block_norm ?_
              refine block_norm ?_
              refine then_norm ?_
              refine w_run [0, 0] ?_
              refine t_done [(.agg [c0, c1]), (.agg [(.int .i64 v40), (.int .i64 v41)]), (.agg [c0, c1]), (.bool (decide ((len4 : Int) > 12))), (.bool (decide ((len5 : Int) > 12))), (.int .i64 v12), (.int .i64 (len6 : Int)), (.bool (decide (v12 < (len6 : Int)))), c0, d14, d15, d16, d17, (.int .i64 (IntKind.wrap .i64 (v42 + 1))), (.int .i64 (len36 : Int)), (.bool (decide (v42 < (len36 : Int)))), c1, (.int .i64 e48), (.bool ((decide (e48 < 0)) || (decide (e48 > 6944)))), (.int .i64 v42), (.bool false)] H18 (by kernel_rfl) ?_
              obtain ⟨m', hm, h⟩ := h
              refine loop_norm ⟨m', hm, _, _, _, _, _, _, _, _, rfl, rfl, h⟩
        · replace h := h.2 (is_dec.f hc)
          refine w_exit ?_
          refine then_exit ?_
          refine loop_exit ?_
          refine block_exit ?_
          refine then_norm ?_
          refine w_seq ?_
          refine w_run [1, 1] ?_
          refine t_build true [(.int .i64 0), (.int .i64 0)] [] [] [(.int .i64 0), (.int .i64 0)] H18 (by kernel_rfl) (by kernel_rfl) ?_
          refine t_upd true 2 0 [(.int .i64 v40), (.int .i64 v41)] (.agg [(.int .i64 0), (.int .i64 0)]) [(.int .i64 0), (.int .i64 0)] [(.int .i64 0), (.int .i64 0)] H18 (by kernel_rfl) rfl (all_c rfl (all_c rfl all_n)) ⟨rfl, Nat.le_of_ble_eq_true (by kernel_rfl), rfl⟩ ?_
          refine t_done [(.agg [c0, c1]), (.agg [(.int .i64 0), (.int .i64 0)]), (.agg [c0, c1]), (.bool (decide ((len4 : Int) > 12))), (.bool (decide ((len5 : Int) > 12))), (.int .i64 v12), (.int .i64 (len6 : Int)), (.bool (decide (v12 < (len6 : Int)))), c0, d14, d15, d16, d17, (.int .i64 v42), (.int .i64 (len36 : Int)), (.bool (decide (v42 < (len36 : Int)))), c1, d44, d45, d46, d47] H18 (by kernel_rfl) ?_
          refine then_norm ?_
          refine w_ret ?_
          exact body_ret (vs := [(.agg [(.int .i64 0), (.int .i64 0)])]) _ (by kernel_rfl) rfl h

-- calendar_check
def rf_calendar_check (ncalendar_Validate : Nat) : RFunc := ⟨2, 12, [.part 2 (some 2)],
 ((.seq (.ops [⟨.tomb 1 (.var 0), none, (some 3), true⟩, ⟨.tomb 1 (.k (.agg [.int .i64 0, .int .i64 0])), none, (some 2), true⟩])
 ((.seq ((.seq (.ops [⟨.field 0 (some 2) (.var 3), none, none, true⟩, ⟨.callS ncalendar_Validate [(.loc 0)], none, none, true⟩, ⟨.tomb 1 (.k (.agg [.int .i64 0, .int .i64 0])), none, (some 4), true⟩, ⟨.upd 2 0 (.loc 2) (.loc 1), none, (some 4), true⟩])
 ((.seq (.ops [⟨.field 0 (some 2) (.var 4), none, none, true⟩, ⟨.build [.int .i64 0, .int .i64 0] [], none, none, true⟩, ⟨.bin .neq (.agg [.int, .int]) (.loc 0) (.loc 1), none, (some 5), true⟩])
 (.cond (.var 5) ((.seq (.ops [⟨.field 0 (some 2) (.var 4), none, none, true⟩, ⟨.upd 2 0 (.var 2) (.loc 0), none, (some 2), true⟩])
 (.ret))) (.skip))))))
 ((.seq ((.seq (.ops [⟨.move (.var 1), none, (some 9), true⟩, ⟨.len (.loc 0), none, (some 7), true⟩, ⟨.move (.k (.int .i64 0)), none, (some 6), true⟩])
 (.block 0 (.loop ((.seq (.ops [⟨.bin .lss .no (.var 6) (.var 7), none, (some 8), true⟩])
 ((.seq (.cond (.var 8) (.skip) (.exit 0))
 ((.seq (.block 1 ((.seq (.ops [⟨.indexAddr 1 (.var 9) (.var 6), none, none, true⟩, ⟨.load none (.loc 0), none, none, true⟩, ⟨.move (.loc 1), none, (some 10), true⟩])
 ((.seq (.ops [⟨.move (.var 10), none, none, true⟩, ⟨.bin .lss .no (.loc 0) (.k (.int .i64 0)), none, none, true⟩, ⟨.move (.loc 1), none, none, true⟩, ⟨.move (.var 10), none, none, true⟩, ⟨.bin .gtr .no (.loc 3) (.k (.int .i64 10000000)), none, none, true⟩, ⟨.pick (.loc 2) (.k (.bool true)) (.loc 4), none, (some 11), true⟩])
 (.cond (.var 11) ((.seq (.ops [⟨.build [.int .i64 0, .int .i64 0] [(0, 1, (.k (.int .i64 3))), (1, 1, (.k (.int .i64 (-20))))], none, none, true⟩, ⟨.upd 2 0 (.var 2) (.loc 0), none, (some 2), true⟩])
 (.ret))) (.skip)))))))
 (.ops [⟨.bin .add .no (.var 6) (.k (.int .i64 1)), none, none, true⟩, ⟨.move (.loc 0), none, (some 6), true⟩])))))))))))
 ((.seq (.ops [⟨.build [.int .i64 0, .int .i64 0] [], none, none, true⟩, ⟨.upd 2 0 (.var 2) (.loc 0), none, (some 2), true⟩])
 (.ret)))))))))⟩
theorem v_calendar_check {F : Nat → Option RFunc} {me ncalendar_Validate : Nat} (hF : F me = some (rf_calendar_check ncalendar_Validate)) {fl : Nat} {H : Heap} {Q : AV → Heap → Prop} (c0 : AV) (c1 : AV) (times2 : AV)
  (h : ∀ (H3 : Heap), Dead1 H 1 H3 → ∀ (H4 : Heap), Dead1 H3 1 H4 → Ret F fl ncalendar_Validate [(.agg [c0, c1])] H4 (fun v8 H7 => ∃ (r5 : Int) (r6 : Int), v8 = (.agg [(.int .i64 r5), (.int .i64 r6)]) ∧ ∀ (H9 : Heap), Dead1 H7 1 H9 → ((¬(((r5 = 0) ∧ (((r6 = 0) ∧ (True)))))) → Q (.agg [(.int .i64 r5), (.int .i64 r6)]) H9) ∧ (¬(¬(((r5 = 0) ∧ (((r6 = 0) ∧ (True)))))) → ∃ len10 : Nat, lenA times2 = some len10 ∧ ∃ (J11 : Nat → Int → Int → Int → Prop) (k12 : Nat), J11 k12 0 0 0 ∧ (∀ (m13 : Nat) (v14 : Int) (v15 : Int) (v16 : Int), J11 m13 v14 v15 v16 → ((v16 < (len10 : Int)) → ∃ (e20 : Int), getA H9 1 none times2 v16 0 = some (.int .i64 e20) ∧ ((((e20 < 0) ∨ (e20 > 10000000))) → Q (.agg [(.int .i64 3), (.int .i64 (-20))]) H9) ∧ (¬(((e20 < 0) ∨ (e20 > 10000000))) → ∃ m22 : Nat, m22 < m13 ∧ J11 m22 v14 v15 (IntKind.wrap .i64 (v16 + 1)))) ∧ (¬(v16 < (len10 : Int)) → Q (.agg [(.int .i64 0), (.int .i64 0)]) H9))))) : Ret F fl me [(.agg [c0, c1]), times2] H Q := by
  refine ret_intro hF rfl ?_
  refine w_seq ?_
  refine w_run [1, 1] ?_
  obtain ⟨H3, hb⟩ : ∃ H', Dead1 H 1 H' := ⟨_, ⟨rfl⟩⟩
  replace h := h H3 hb
  refine t_tomb true 1 (.agg [c0, c1]) [c0, c1] H3 H (by kernel_rfl) rfl hb ?_
  obtain ⟨H4, hb⟩ : ∃ H', Dead1 H3 1 H' := ⟨_, ⟨rfl⟩⟩
  replace h := h H4 hb
  refine t_tomb true 1 (.agg [(.int .i64 0), (.int .i64 0)]) [(.int .i64 0), (.int .i64 0)] H4 H3 (by kernel_rfl) rfl hb ?_
  refine t_done [(.agg [c0, c1]), times2, (.agg [(.int .i64 0), (.int .i64 0)]), (.agg [c0, c1]), .undef, .undef, .undef, .undef, .undef, .undef, .undef, .undef] H4 (by kernel_rfl) ?_
  refine then_norm ?_
  refine w_seq ?_
  refine w_seq ?_
  refine w_run [0, 1, 1, 1] ?_
  refine t_call true ncalendar_Validate [(.agg [c0, c1])] H4 (by kernel_rfl) h ?_
  clear h
  rintro _ H7 ⟨r5, r6, rfl, h⟩
  obtain ⟨H9, hb⟩ : ∃ H', Dead1 H7 1 H' := ⟨_, ⟨rfl⟩⟩
  replace h := h H9 hb
  refine t_tomb true 1 (.agg [(.int .i64 0), (.int .i64 0)]) [(.int .i64 0), (.int .i64 0)] H9 H7 (by kernel_rfl) rfl hb ?_
  refine t_upd true 2 0 [(.int .i64 0), (.int .i64 0)] (.agg [(.int .i64 r5), (.int .i64 r6)]) [(.int .i64 r5), (.int .i64 r6)] [(.int .i64 r5), (.int .i64 r6)] H9 (by kernel_rfl) rfl (all_c rfl (all_c rfl all_n)) ⟨rfl, Nat.le_of_ble_eq_true (by kernel_rfl), rfl⟩ ?_
  refine t_done [(.agg [c0, c1]), times2, (.agg [(.int .i64 0), (.int .i64 0)]), (.agg [c0, c1]), (.agg [(.int .i64 r5), (.int .i64 r6)]), .undef, .undef, .undef, .undef, .undef, .undef, .undef] H9 (by kernel_rfl) ?_
  refine then_norm ?_
  refine w_seq ?_
  refine w_run [0, 1, 0] ?_
  refine t_build true [(.int .i64 0), (.int .i64 0)] [] [] [(.int .i64 0), (.int .i64 0)] H9 (by kernel_rfl) (by kernel_rfl) ?_
  refine t_done [(.agg [c0, c1]), times2, (.agg [(.int .i64 0), (.int .i64 0)]), (.agg [c0, c1]), (.agg [(.int .i64 r5), (.int .i64 r6)]), (.bool (!(((r5) == 0) && (((r6) == 0) && true)))), .undef, .undef, .undef, .undef, .undef, .undef] H9 (by kernel_rfl) ?_
  refine then_norm ?_
  refine w_cond (t := (!(((r5) == 0) && (((r6) == 0) && true)))) rfl (fun hc => ?_) (fun hc => ?_)
  · replace h := h.1 ((is_not (is_and is_eq (is_and is_eq is_true))).t hc)
    refine w_seq ?_
    refine w_run [0, 1] ?_
    refine t_upd true 2 0 [(.int .i64 0), (.int .i64 0)] (.agg [(.int .i64 r5), (.int .i64 r6)]) [(.int .i64 r5), (.int .i64 r6)] [(.int .i64 r5), (.int .i64 r6)] H9 (by kernel_rfl) rfl (all_c rfl (all_c rfl all_n)) ⟨rfl, Nat.le_of_ble_eq_true (by kernel_rfl), rfl⟩ ?_
    refine t_done [(.agg [c0, c1]), times2, (.agg [(.int .i64 r5), (.int .i64 r6)]), (.agg [c0, c1]), (.agg [(.int .i64 r5), (.int .i64 r6)]), (.bool (!(((r5) == 0) && (((r6) == 0) && true)))), .undef, .undef, .undef, .undef, .undef, .undef] H9 (by kernel_rfl) ?_
    refine then_norm ?_
    refine w_ret ?_
    refine then_ret ?_
    exact body_ret (vs := [(.agg [(.int .i64 r5), (.int .i64 r6)])]) _ (by kernel_rfl) rfl h
  · replace h := h.2 ((is_not (is_and is_eq (is_and is_eq is_true))).f hc)
    refine w_skip ?_
    refine then_norm ?_
    refine w_seq ?_
    refine w_seq ?_
    refine w_run [0, 1, 0] ?_
    obtain ⟨len10, hl, h⟩ := h
    refine t_len true times2 len10 H9 (by kernel_rfl) hl ?_
    refine t_done [(.agg [c0, c1]), times2, (.agg [(.int .i64 0), (.int .i64 0)]), (.agg [c0, c1]), (.agg [(.int .i64 r5), (.int .i64 r6)]), (.bool (!(((r5) == 0) && (((r6) == 0) && true)))), (.int .i64 0), (.int .i64 (len10 : Int)), .undef, times2, .undef, .undef] H9 (by kernel_rfl) ?_
    refine then_norm ?_
    refine w_block ?_
    obtain ⟨J11, k12, h0, h⟩ := h
    refine w_loop (I := fun mI EI HI => ∃ (v14 : Int) (v15 : Int) (v16 : Int) (d17 : AV) (d18 : AV) (d19 : AV), EI = [(.agg [c0, c1]), times2, (.agg [(.int .i64 v14), (.int .i64 v15)]), (.agg [c0, c1]), (.agg [(.int .i64 r5), (.int .i64 r6)]), (.bool (!(((r5) == 0) && (((r6) == 0) && true)))), (.int .i64 v16), (.int .i64 (len10 : Int)), d17, times2, d18, d19] ∧ H9 = HI ∧ J11 mI v14 v15 v16) ?_ k12 ⟨_, _, _, _, _, _, rfl, rfl, h0⟩
    clear h0
    rintro m13 EI HI ⟨v14, v15, v16, d17, d18, d19, rfl, rfl, hJ⟩
    replace h := h m13 v14 v15 v16  hJ
    clear hJ
    refine w_seq ?_
    refine w_run [0] ?_
    refine t_done [(.agg [c0, c1]), times2, (.agg [(.int .i64 v14), (.int .i64 v15)]), (.agg [c0, c1]), (.agg [(.int .i64 r5), (.int .i64 r6)]), (.bool (!(((r5) == 0) && (((r6) == 0) && true)))), (.int .i64 v16), (.int .i64 (len10 : Int)), (.bool (decide (v16 < (len10 : Int)))), times2, d18, d19] H9 (by kernel_rfl) ?_
    refine then_norm ?_
    refine w_seq ?_
    refine w_cond (t := (decide (v16 < (len10 : Int)))) rfl (fun hc => ?_) (fun hc => ?_)
    · replace h := h.1 (is_dec.t hc)
      refine w_skip ?_
      refine then_norm ?_
      refine w_seq ?_
      refine w_block ?_
      refine w_seq ?_
      refine w_run [1, 1, 0] ?_
      obtain ⟨e20, hg21, h⟩ := h
      refine t_idxG true 1 times2 .i64 v16 H9 (by kernel_rfl) hg21 ?_
      refine t_loadG true none 1 times2 v16 0 (.int .i64 e20) H9 (by kernel_rfl) hg21 ?_
      refine t_done [(.agg [c0, c1]), times2, (.agg [(.int .i64 v14), (.int .i64 v15)]), (.agg [c0, c1]), (.agg [(.int .i64 r5), (.int .i64 r6)]), (.bool (!(((r5) == 0) && (((r6) == 0) && true)))), (.int .i64 v16), (.int .i64 (len10 : Int)), (.bool (decide (v16 < (len10 : Int)))), times2, (.int .i64 e20), d19] H9 (by kernel_rfl) ?_
      refine then_norm ?_
      refine w_seq ?_
      refine w_run [0, 0, 0, 0, 0, 0] ?_
      refine t_done [(.agg [c0, c1]), times2, (.agg [(.int .i64 v14), (.int .i64 v15)]), (.agg [c0, c1]), (.agg [(.int .i64 r5), (.int .i64 r6)]), (.bool (!(((r5) == 0) && (((r6) == 0) && true)))), (.int .i64 v16), (.int .i64 (len10 : Int)), (.bool (decide (v16 < (len10 : Int)))), times2, (.int .i64 e20), (.bool ((decide (e20 < 0)) || (decide (e20 > 10000000))))] H9 (by kernel_rfl) ?_
      refine then_norm ?_
      refine w_cond (t := ((decide (e20 < 0)) || (decide (e20 > 10000000)))) rfl (fun hc => ?_) (fun hc => ?_)
      · replace h := h.1 ((is_or is_dec is_dec).t hc)
        refine w_seq ?_
        refine w_run [1, 1] ?_
        refine t_build true [(.int .i64 0), (.int .i64 0)] [(0, 1, .loc 0), (1, 1, .loc 1)] [(.int .i64 3), (.int .i64 (-20))] [(.int .i64 3), (.int .i64 (-20))] H9 (by kernel_rfl) (fill_c (vs := [(.int .i64 3)]) (size := 1) rfl (by kernel_rfl) (by kernel_rfl) (fill_c (vs := [(.int .i64 (-20))]) (size := 1) rfl (by kernel_rfl) (by kernel_rfl) (by kernel_rfl))) ?_
        refine t_upd true 2 0 [(.int .i64 v14), (.int .i64 v15)] (.agg [(.int .i64 3), (.int .i64 (-20))]) [(.int .i64 3), (.int .i64 (-20))] [(.int .i64 3), (.int .i64 (-20))] H9 (by kernel_rfl) rfl (all_c rfl (all_c rfl all_n)) ⟨rfl, Nat.le_of_ble_eq_true (by kernel_rfl), rfl⟩ ?_
        refine t_done [(.agg [c0, c1]), times2, (.agg [(.int .i64 3), (.int .i64 (-20))]), (.agg [c0, c1]), (.agg [(.int .i64 r5), (.int .i64 r6)]), (.bool (!(((r5) == 0) && (((r6) == 0) && true)))), (.int .i64 v16), (.int .i64 (len10 : Int)), (.bool (decide (v16 < (len10 : Int)))), times2, (.int .i64 e20), (.bool ((decide (e20 < 0)) || (decide (e20 > 10000000))))] H9 (by kernel_rfl) ?_
        refine then_norm ?_
        refine w_ret ?_
        refine block_ret ?_
        refine then_ret ?_
        refine loop_ret ?_
        refine block_ret ?_
        refine then_ret ?_
        exact body_ret (vs := [(.agg [(.int .i64 3), (.int .i64 (-20))])]) _ (by kernel_rfl) rfl h
      · replace h := h.2 ((is_or is_dec is_dec).f hc)
        refine w_skip ?_
        refine block_norm ?_
        refine then_norm ?_
        refine w_run [0, 0] ?_
        refine t_done [(.agg [c0, c1]), times2, (.agg [(.int .i64 v14), (.int .i64 v15)]), (.agg [c0, c1]), (.agg [(.int .i64 r5), (.int .i64 r6)]), (.bool (!(((r5) == 0) && (((r6) == 0) && true)))), (.int .i64 (IntKind.wrap .i64 (v16 + 1))), (.int .i64 (len10 : Int)), (.bool (decide (v16 < (len10 : Int)))), times2, (.int .i64 e20), (.bool ((decide (e20 < 0)) || (decide (e20 > 10000000))))] H9 (by kernel_rfl) ?_
        obtain ⟨m', hm, h⟩ := h
        refine loop_norm ⟨m', hm, _, _, _, _, _, _, rfl, rfl, h⟩
    · replace h := h.2 (is_dec.f hc)
      refine w_exit ?_
      refine then_exit ?_
      refine loop_exit ?_
      refine block_exit ?_
      refine then_norm ?_
      refine w_seq ?_
      refine w_run [1, 1] ?_
      refine t_build true [(.int .i64 0), (.int .i64 0)] [] [] [(.int .i64 0), (.int .i64 0)] H9 (by kernel_rfl) (by kernel_rfl) ?_
      refine t_upd true 2 0 [(.int .i64 v14), (.int .i64 v15)] (.agg [(.int .i64 0), (.int .i64 0)]) [(.int .i64 0), (.int .i64 0)] [(.int .i64 0), (.int .i64 0)] H9 (by kernel_rfl) rfl (all_c rfl (all_c rfl all_n)) ⟨rfl, Nat.le_of_ble_eq_true (by kernel_rfl), rfl⟩ ?_
      refine t_done [(.agg [c0, c1]), times2, (.agg [(.int .i64 0), (.int .i64 0)]), (.agg [c0, c1]), (.agg [(.int .i64 r5), (.int .i64 r6)]), (.bool (!(((r5) == 0) && (((r6) == 0) && true)))), (.int .i64 v16), (.int .i64 (len10 : Int)), (.bool (decide (v16 < (len10 : Int)))), times2, d18, d19] H9 (by kernel_rfl) ?_
      refine then_norm ?_
      refine w_ret ?_
      exact body_ret (vs := [(.agg [(.int .i64 0), (.int .i64 0)])]) _ (by kernel_rfl) rfl h

-- slices_ContainsFunc__calendar_span_calendar_span
def rf_slices_ContainsFunc__calendar_span_calendar_span (nslices_IndexFunc__calendar_span_calendar_span : Nat) : RFunc := ⟨2, 3, [.var 2],
 ((.seq (.ops [⟨.move (.k (.bool false)), none, (some 2), true⟩])
 ((.seq (.ops [⟨.move (.var 0), none, none, true⟩, ⟨.move (.var 1), none, none, true⟩, ⟨.callS nslices_IndexFunc__calendar_span_calendar_span [(.loc 0), (.loc 1)], none, none, true⟩, ⟨.bin .geq .no (.loc 2) (.k (.int .i64 0)), none, none, true⟩, ⟨.move (.loc 3), none, (some 2), true⟩])
 (.ret)))))⟩
theorem v_slices_ContainsFunc__calendar_span_calendar_span {F : Nat → Option RFunc} {me nslices_IndexFunc__calendar_span_calendar_span : Nat} (hF : F me = some (rf_slices_ContainsFunc__calendar_span_calendar_span nslices_IndexFunc__calendar_span_calendar_span)) {fl : Nat} {H : Heap} {Q : AV → Heap → Prop} (s0 : AV) (fg1 : Nat) (fc2 : List AV)
  (h : Ret F fl nslices_IndexFunc__calendar_span_calendar_span [s0, (.func fg1 fc2)] H (fun v5 H4 => ∃ (r3 : Int), v5 = (.int .i64 r3) ∧ Q (.bool (decide (r3 ≥ 0))) H4)) : Ret F fl me [s0, (.func fg1 fc2)] H Q := by
  refine ret_intro hF rfl ?_
  refine w_seq ?_
  refine w_run [0] ?_
  refine t_done [s0, (.func fg1 fc2), (.bool false)] H (by kernel_rfl) ?_
  refine then_norm ?_
  refine w_seq ?_
  refine w_run [0, 0, 1, 0, 0] ?_
  refine t_call true nslices_IndexFunc__calendar_span_calendar_span [s0, (.func fg1 fc2)] H (by kernel_rfl) h ?_
  clear h
  rintro _ H4 ⟨r3, rfl, h⟩
  refine t_done [s0, (.func fg1 fc2), (.bool (decide (r3 ≥ 0)))] H4 (by kernel_rfl) ?_
  refine then_norm ?_
  refine w_ret ?_
  exact body_ret (vs := [(.bool (decide (r3 ≥ 0)))]) _ (by kernel_rfl) rfl h

-- calendar_day
def rf_calendar_day (nslices_BinarySearch__int_int : Nat) : RFunc := ⟨2, 13, [.var 2],
 ((.seq (.ops [⟨.tomb 1 (.var 0), none, (some 3), true⟩, ⟨.move (.k (.empty)), none, (some 2), true⟩])
 ((.seq ((.seq (.ops [⟨.field 0 none (.var 3), none, none, true⟩, ⟨.field 1 none (.var 3), none, none, true⟩, ⟨.move (.var 1), none, none, true⟩, ⟨.callS nslices_BinarySearch__int_int [(.loc 1), (.loc 2)], none, none, true⟩, ⟨.move (.loc 3), none, none, true⟩, ⟨.extract (.loc 4) 0, none, none, true⟩, ⟨.extract (.loc 4) 1, none, none, true⟩, ⟨.move (.loc 5), none, none, true⟩, ⟨.move (.loc 6), none, (some 4), true⟩])
 ((.seq (.ops [⟨.move (.var 4), none, (some 5), true⟩])
 (.cond (.var 5) ((.seq (.ops [⟨.move (.k (.empty)), none, (some 2), true⟩])
 (.ret))) (.skip))))))
 ((.seq (.ops [⟨.move (.k (.empty)), none, (some 12), true⟩])
 ((.seq ((.seq (.ops [⟨.field 0 none (.var 3), none, none, true⟩, ⟨.field 0 none (.var 3), none, (some 9), true⟩, ⟨.len (.loc 1), none, (some 7), true⟩, ⟨.move (.k (.int .i64 0)), none, (some 6), true⟩])
 (.block 0 (.loop ((.seq (.ops [⟨.bin .lss .no (.var 6) (.var 7), none, (some 8), true⟩])
 ((.seq (.cond (.var 8) (.skip) (.exit 0))
 ((.seq (.block 1 ((.seq (.ops [⟨.indexAddr 3 (.var 9) (.var 6), none, none, true⟩, ⟨.load (some 3) (.loc 0), none, none, true⟩, ⟨.tomb 1 (.k (.agg [.int .i64 0, .int .i64 0, .int .i64 0])), none, (some 10), true⟩, ⟨.upd 3 0 (.loc 2) (.loc 1), none, (some 10), true⟩])
 ((.seq (.ops [⟨.field 0 none (.var 10), none, none, true⟩, ⟨.field 0 none (.var 10), none, none, true⟩, ⟨.move (.var 1), none, none, true⟩, ⟨.bin .rem .no (.loc 2) (.k (.int .i64 7)), none, none, true⟩, ⟨.bin .eql .no (.loc 1) (.loc 3), none, (some 11), true⟩])
 (.cond (.var 11) (.ops [⟨.move (.var 12), none, none, true⟩, ⟨.move (.var 1), none, none, true⟩, ⟨.bin .mul .no (.loc 1) (.k (.int .i64 1440)), none, none, true⟩, ⟨.field 0 none (.var 10), none, none, true⟩, ⟨.field 1 none (.var 10), none, none, true⟩, ⟨.bin .add .no (.loc 2) (.loc 4), none, none, true⟩, ⟨.move (.var 1), none, none, true⟩, ⟨.bin .mul .no (.loc 6) (.k (.int .i64 1440)), none, none, true⟩, ⟨.field 0 none (.var 10), none, none, true⟩, ⟨.field 2 none (.var 10), none, none, true⟩, ⟨.bin .add .no (.loc 7) (.loc 9), none, none, true⟩, ⟨.build [.int .i64 0, .int .i64 0] [(0, 1, (.loc 5)), (1, 1, (.loc 10))], none, none, true⟩, ⟨.buildSlice 2 [.int .i64 0, .int .i64 0] [(0, 2, (.loc 11))] 1, none, none, true⟩, ⟨.append 2 16 (.loc 0) (.loc 12), none, none, true⟩, ⟨.move (.loc 13), none, (some 12), true⟩]) (.skip)))))))
 (.ops [⟨.bin .add .no (.var 6) (.k (.int .i64 1)), none, none, true⟩, ⟨.move (.loc 0), none, (some 6), true⟩])))))))))))
 ((.seq (.ops [⟨.move (.var 12), none, none, true⟩, ⟨.move (.loc 0), none, (some 2), true⟩])
 (.ret)))))))))))⟩
theorem v_calendar_day {F : Nat → Option RFunc} {me nslices_BinarySearch__int_int : Nat} (hF : F me = some (rf_calendar_day nslices_BinarySearch__int_int)) {fl : Nat} {H : Heap} {Q : AV → Heap → Prop} (c0 : AV) (c1 : AV) (d2 : Int)
  (h : ∀ (H3 : Heap), Dead1 H 1 H3 → Ret F fl nslices_BinarySearch__int_int [c1, (.int .i64 d2)] H3 (fun v7 H6 => ∃ (r4 : Int) (r5 : Bool), v7 = (.tuple [(.int .i64 r4), (.bool r5)]) ∧ ((r5 = true) → Q .empty H6) ∧ (¬(r5 = true) → ∃ len8 : Nat, lenA c0 = some len8 ∧ ∃ (J9 : Nat → Int → AV → Heap → Prop) (k10 : Nat), J9 k10 0 .empty H6 ∧ (∀ (m11 : Nat) (v12 : Int) (out16 : AV) (H17 : Heap), J9 m11 v12 out16 H17 → ((v12 < (len8 : Int)) → ∃ (e18 : Int) (e19 : Int) (e20 : Int), getA H17 3 (some 3) c0 v12 0 = some (.agg [(.int .i64 e18), (.int .i64 e19), (.int .i64 e20)]) ∧ ∀ (H22 : Heap), Dead1 H17 1 H22 → ((e18 = (Int.tmod d2 7)) → ∀ (b23 : Nat) (H24 : Heap), NewB H22 2 [(.int .i64 (IntKind.wrap .i64 ((IntKind.wrap .i64 (d2 * 1440)) + e19))), (.int .i64 (IntKind.wrap .i64 ((IntKind.wrap .i64 (d2 * 1440)) + e20)))] b23 H24 → ∃ (a25 : AV) (H26 : Heap), appA fl true 2 16 H24 out16 (.slice b23 0 1 (some 1)) = some (a25, H26) ∧ ∃ m27 : Nat, m27 < m11 ∧ J9 m27 (IntKind.wrap .i64 (v12 + 1)) a25 H26) ∧ (¬(e18 = (Int.tmod d2 7)) → ∃ m28 : Nat, m28 < m11 ∧ J9 m28 (IntKind.wrap .i64 (v12 + 1)) out16 H22)) ∧ (¬(v12 < (len8 : Int)) → Q out16 H17))))) : Ret F fl me [(.agg [c0, c1]), (.int .i64 d2)] H Q := by
  refine ret_intro hF rfl ?_
  refine w_seq ?_
  refine w_run [1, 0] ?_
  obtain ⟨H3, hb⟩ : ∃ H', Dead1 H 1 H' := ⟨_, ⟨rfl⟩⟩
  replace h := h H3 hb
  refine t_tomb true 1 (.agg [c0, c1]) [c0, c1] H3 H (by kernel_rfl) rfl hb ?_
  refine t_done [(.agg [c0, c1]), (.int .i64 d2), .empty, (.agg [c0, c1]), .undef, .undef, .undef, .undef, .undef, .undef, .undef, .undef, .undef] H3 (by kernel_rfl) ?_
  refine then_norm ?_
  refine w_seq ?_
  refine w_seq ?_
  refine w_run [0, 0, 0, 1, 0, 0, 0, 0, 0] ?_
  refine t_call true nslices_BinarySearch__int_int [c1, (.int .i64 d2)] H3 (by kernel_rfl) h ?_
  clear h
  rintro _ H6 ⟨r4, r5, rfl, h⟩
  refine t_done [(.agg [c0, c1]), (.int .i64 d2), .empty, (.agg [c0, c1]), (.bool r5), .undef, .undef, .undef, .undef, .undef, .undef, .undef, .undef] H6 (by kernel_rfl) ?_
  refine then_norm ?_
  refine w_seq ?_
  refine w_run [0] ?_
  refine t_done [(.agg [c0, c1]), (.int .i64 d2), .empty, (.agg [c0, c1]), (.bool r5), (.bool r5), .undef, .undef, .undef, .undef, .undef, .undef, .undef] H6 (by kernel_rfl) ?_
  refine then_norm ?_
  refine w_cond (t := r5) rfl (fun hc => ?_) (fun hc => ?_)
  · replace h := h.1 (is_raw.t hc)
    refine w_seq ?_
    refine w_run [0] ?_
    refine t_done [(.agg [c0, c1]), (.int .i64 d2), .empty, (.agg [c0, c1]), (.bool r5), (.bool r5), .undef, .undef, .undef, .undef, .undef, .undef, .undef] H6 (by kernel_rfl) ?_
    refine then_norm ?_
    refine w_ret ?_
    refine then_ret ?_
    exact body_ret (vs := [.empty]) _ (by kernel_rfl) rfl h
  · replace h := h.2 (is_raw.f hc)
    refine w_skip ?_
    refine then_norm ?_
    refine w_seq ?_
    refine w_run [0] ?_
    refine t_done [(.agg [c0, c1]), (.int .i64 d2), .empty, (.agg [c0, c1]), (.bool r5), (.bool r5), .undef, .undef, .undef, .undef, .undef, .undef, .empty] H6 (by kernel_rfl) ?_
    refine then_norm ?_
    refine w_seq ?_
    refine w_seq ?_
    refine w_run [0, 0, 1, 0] ?_
    obtain ⟨len8, hl, h⟩ := h
    refine t_len true c0 len8 H6 (by kernel_rfl) hl ?_
    refine t_done [(.agg [c0, c1]), (.int .i64 d2), .empty, (.agg [c0, c1]), (.bool r5), (.bool r5), (.int .i64 0), (.int .i64 (len8 : Int)), .undef, c0, .undef, .undef, .empty] H6 (by kernel_rfl) ?_
    refine then_norm ?_
    refine w_block ?_
    obtain ⟨J9, k10, h0, h⟩ := h
    refine w_loop (I := fun mI EI HI => ∃ (v12 : Int) (d13 : AV) (d14 : AV) (d15 : AV) (out16 : AV), EI = [(.agg [c0, c1]), (.int .i64 d2), .empty, (.agg [c0, c1]), (.bool r5), (.bool r5), (.int .i64 v12), (.int .i64 (len8 : Int)), d13, c0, d14, d15, out16] ∧ J9 mI v12 out16 HI) ?_ k10 ⟨_, _, _, _, _, rfl, h0⟩
    clear h0
    rintro m11 EI H17 ⟨v12, d13, d14, d15, out16, rfl, hJ⟩
    replace h := h m11 v12 out16 H17 hJ
    clear hJ
    refine w_seq ?_
    refine w_run [0] ?_
    refine t_done [(.agg [c0, c1]), (.int .i64 d2), .empty, (.agg [c0, c1]), (.bool r5), (.bool r5), (.int .i64 v12), (.int .i64 (len8 : Int)), (.bool (decide (v12 < (len8 : Int)))), c0, d14, d15, out16] H17 (by kernel_rfl) ?_
    refine then_norm ?_
    refine w_seq ?_
    refine w_cond (t := (decide (v12 < (len8 : Int)))) rfl (fun hc => ?_) (fun hc => ?_)
    · replace h := h.1 (is_dec.t hc)
      refine w_skip ?_
      refine then_norm ?_
      refine w_seq ?_
      refine w_block ?_
      refine w_seq ?_
      refine w_run [1, 1, 1, 1] ?_
      obtain ⟨e18, e19, e20, hg21, h⟩ := h
      refine t_idxG true 3 c0 .i64 v12 H17 (by kernel_rfl) hg21 ?_
      refine t_loadG true (some 3) 3 c0 v12 0 (.agg [(.int .i64 e18), (.int .i64 e19), (.int .i64 e20)]) H17 (by kernel_rfl) hg21 ?_
      obtain ⟨H22, hb⟩ : ∃ H', Dead1 H17 1 H' := ⟨_, ⟨rfl⟩⟩
      replace h := h H22 hb
      refine t_tomb true 1 (.agg [(.int .i64 0), (.int .i64 0), (.int .i64 0)]) [(.int .i64 0), (.int .i64 0), (.int .i64 0)] H22 H17 (by kernel_rfl) rfl hb ?_
      refine t_upd true 3 0 [(.int .i64 0), (.int .i64 0), (.int .i64 0)] (.agg [(.int .i64 e18), (.int .i64 e19), (.int .i64 e20)]) [(.int .i64 e18), (.int .i64 e19), (.int .i64 e20)] [(.int .i64 e18), (.int .i64 e19), (.int .i64 e20)] H22 (by kernel_rfl) rfl (all_c rfl (all_c rfl (all_c rfl all_n))) ⟨rfl, Nat.le_of_ble_eq_true (by kernel_rfl), rfl⟩ ?_
      refine t_done [(.agg [c0, c1]), (.int .i64 d2), .empty, (.agg [c0, c1]), (.bool r5), (.bool r5), (.int .i64 v12), (.int .i64 (len8 : Int)), (.bool (decide (v12 < (len8 : Int)))), c0, (.agg [(.int .i64 e18), (.int .i64 e19), (.int .i64 e20)]), d15, out16] H22 (by kernel_rfl) ?_
      refine then_norm ?_
      refine w_seq ?_
      refine w_run [0, 0, 0, 1, 0] ?_
      refine t_rem true .no .i64 d2 7 H22 (by kernel_rfl) (by decide) ?_
      refine t_done [(.agg [c0, c1]), (.int .i64 d2), .empty, (.agg [c0, c1]), (.bool r5), (.bool r5), (.int .i64 v12), (.int .i64 (len8 : Int)), (.bool (decide (v12 < (len8 : Int)))), c0, (.agg [(.int .i64 e18), (.int .i64 e19), (.int .i64 e20)]), (.bool ((e18) == (Int.tmod d2 7))), out16] H22 (by kernel_rfl) ?_
      refine then_norm ?_
      refine w_cond (t := ((e18) == (Int.tmod d2 7))) rfl (fun hc => ?_) (fun hc => ?_)
      · replace h := h.1 (is_eq.t hc)
        refine w_run [0, 0, 0, 0, 0, 0, 0, 0, 0, 0, 0, 1, 1, 1, 0] ?_
        refine t_build true [(.int .i64 0), (.int .i64 0)] [(0, 1, .loc 0), (1, 1, .loc 1)] [(.int .i64 (IntKind.wrap .i64 ((IntKind.wrap .i64 (d2 * 1440)) + e19))), (.int .i64 (IntKind.wrap .i64 ((IntKind.wrap .i64 (d2 * 1440)) + e20)))] [(.int .i64 (IntKind.wrap .i64 ((IntKind.wrap .i64 (d2 * 1440)) + e19))), (.int .i64 (IntKind.wrap .i64 ((IntKind.wrap .i64 (d2 * 1440)) + e20)))] H22 (by kernel_rfl) (fill_c (vs := [(.int .i64 (IntKind.wrap .i64 ((IntKind.wrap .i64 (d2 * 1440)) + e19)))]) (size := 1) rfl (by kernel_rfl) (by kernel_rfl) (fill_c (vs := [(.int .i64 (IntKind.wrap .i64 ((IntKind.wrap .i64 (d2 * 1440)) + e20)))]) (size := 1) rfl (by kernel_rfl) (by kernel_rfl) (by kernel_rfl))) ?_
        obtain ⟨b23, H24, hb⟩ : ∃ b H', NewB H22 2 [(.int .i64 (IntKind.wrap .i64 ((IntKind.wrap .i64 (d2 * 1440)) + e19))), (.int .i64 (IntKind.wrap .i64 ((IntKind.wrap .i64 (d2 * 1440)) + e20)))] b H' := ⟨_, _, rfl, rfl⟩
        replace h := h b23 H24 hb
        refine t_bs true 2 [(.int .i64 0), (.int .i64 0)] [(0, 2, .loc 0)] 1 [(.agg [(.int .i64 (IntKind.wrap .i64 ((IntKind.wrap .i64 (d2 * 1440)) + e19))), (.int .i64 (IntKind.wrap .i64 ((IntKind.wrap .i64 (d2 * 1440)) + e20)))])] [(.int .i64 (IntKind.wrap .i64 ((IntKind.wrap .i64 (d2 * 1440)) + e19))), (.int .i64 (IntKind.wrap .i64 ((IntKind.wrap .i64 (d2 * 1440)) + e20)))] b23 H24 H22 (by kernel_rfl) (fill_c (vs := [(.int .i64 (IntKind.wrap .i64 ((IntKind.wrap .i64 (d2 * 1440)) + e19))), (.int .i64 (IntKind.wrap .i64 ((IntKind.wrap .i64 (d2 * 1440)) + e20)))]) (size := 2) rfl (by kernel_rfl) (by kernel_rfl) (by kernel_rfl)) hb ?_
        obtain ⟨a25, H26, ha, h⟩ := h
        refine t_app true 2 16 out16 (.slice b23 0 1 (some 1)) a25 H26 H24 (by kernel_rfl) ha ?_
        refine t_done [(.agg [c0, c1]), (.int .i64 d2), .empty, (.agg [c0, c1]), (.bool r5), (.bool r5), (.int .i64 v12), (.int .i64 (len8 : Int)), (.bool (decide (v12 < (len8 : Int)))), c0, (.agg [(.int .i64 e18), (.int .i64 e19), (.int .i64 e20)]), (.bool ((e18) == (Int.tmod d2 7))), a25] H26 (by kernel_rfl) ?_
        refine block_norm ?_
        refine then_norm ?_
        refine w_run [0, 0] ?_
        refine t_done [(.agg [c0, c1]), (.int .i64 d2), .empty, (.agg [c0, c1]), (.bool r5), (.bool r5), (.int .i64 (IntKind.wrap .i64 (v12 + 1))), (.int .i64 (len8 : Int)), (.bool (decide (v12 < (len8 : Int)))), c0, (.agg [(.int .i64 e18), (.int .i64 e19), (.int .i64 e20)]), (.bool ((e18) == (Int.tmod d2 7))), a25] H26 (by kernel_rfl) ?_
        obtain ⟨m', hm, h⟩ := h
        refine loop_norm ⟨m', hm, _, _, _, _, _, rfl, h⟩
      · replace h := h.2 (is_eq.f hc)
        refine w_skip ?_
        refine block_norm ?_
        refine then_norm ?_
        refine w_run [0, 0] ?_
        refine t_done [(.agg [c0, c1]), (.int .i64 d2), .empty, (.agg [c0, c1]), (.bool r5), (.bool r5), (.int .i64 (IntKind.wrap .i64 (v12 + 1))), (.int .i64 (len8 : Int)), (.bool (decide (v12 < (len8 : Int)))), c0, (.agg [(.int .i64 e18), (.int .i64 e19), (.int .i64 e20)]), (.bool ((e18) == (Int.tmod d2 7))), out16] H22 (by kernel_rfl) ?_
        obtain ⟨m', hm, h⟩ := h
        refine loop_norm ⟨m', hm, _, _, _, _, _, rfl, h⟩
    · replace h := h.2 (is_dec.f hc)
      refine w_exit ?_
      refine then_exit ?_
      refine loop_exit ?_
      refine block_exit ?_
      refine then_norm ?_
      refine w_seq ?_
      refine w_run [0, 0] ?_
      refine t_done [(.agg [c0, c1]), (.int .i64 d2), out16, (.agg [c0, c1]), (.bool r5), (.bool r5), (.int .i64 v12), (.int .i64 (len8 : Int)), (.bool (decide (v12 < (len8 : Int)))), c0, d14, d15, out16] H17 (by kernel_rfl) ?_
      refine then_norm ?_
      refine w_ret ?_
      exact body_ret (vs := [out16]) _ (by kernel_rfl) rfl h

-- calendar_Openx1
def rf_calendar_Openx1 : RFunc := ⟨2, 4, [.var 2],
 ((.seq (.ops [⟨.tomb 1 (.var 0), none, (some 3), true⟩, ⟨.move (.k (.bool false)), none, (some 2), true⟩])
 ((.seq (.ops [⟨.field 0 none (.var 3), none, none, true⟩, ⟨.field 0 none (.var 3), none, none, true⟩, ⟨.load none (.var 1), none, none, true⟩, ⟨.bin .leq .no (.loc 1) (.loc 2), none, none, true⟩, ⟨.move (.loc 3), none, none, true⟩, ⟨.load none (.var 1), (some (4, true)), none, true⟩, ⟨.field 0 none (.var 3), none, none, true⟩, ⟨.field 1 none (.var 3), none, none, true⟩, ⟨.bin .lss .no (.loc 5) (.loc 7), (some (4, true)), none, true⟩, ⟨.pick (.loc 4) (.loc 8) (.k (.bool false)), none, none, true⟩, ⟨.move (.loc 9), none, (some 2), true⟩])
 (.ret)))))⟩
theorem v_calendar_Openx1 {F : Nat → Option RFunc} {me : Nat} (hF : F me = some (rf_calendar_Openx1 )) {fl : Nat} {H : Heap} {Q : AV → Heap → Prop} (s0 : Int) (s1 : Int) (cap2 : AV)
  (h : ∀ (H3 : Heap), Dead1 H 1 H3 → ∃ (b4 : Nat) (o5 : Nat), cap2 = .ptr b4 o5 ∧ ∃ (e6 : Int), rload H3 none b4 o5 = some (.int .i64 e6) ∧ ((s0 ≤ e6) → ∃ (e7 : Int), rload H3 none b4 o5 = some (.int .i64 e7) ∧ Q (.bool (decide (e7 < s1))) H3) ∧ (¬(s0 ≤ e6) → Q (.bool false) H3)) : Ret F fl me [(.agg [(.int .i64 s0), (.int .i64 s1)]), cap2] H Q := by
  refine ret_intro hF rfl ?_
  refine w_seq ?_
  refine w_run [1, 0] ?_
  obtain ⟨H3, hb⟩ : ∃ H', Dead1 H 1 H' := ⟨_, ⟨rfl⟩⟩
  replace h := h H3 hb
  refine t_tomb true 1 (.agg [(.int .i64 s0), (.int .i64 s1)]) [(.int .i64 s0), (.int .i64 s1)] H3 H (by kernel_rfl) rfl hb ?_
  refine t_done [(.agg [(.int .i64 s0), (.int .i64 s1)]), cap2, (.bool false), (.agg [(.int .i64 s0), (.int .i64 s1)])] H3 (by kernel_rfl) ?_
  refine then_norm ?_
  refine w_seq ?_
  refine w_run [0, 0, 1, 0, 0, 3, 0, 0, 2, 0, 0] ?_
  obtain ⟨b4, o5, rfl, e6, hl, h⟩ := h
  refine t_load true none b4 o5 (.int .i64 e6) H3 (by kernel_rfl) hl ?_
  refine t_gd (decide (s0 ≤ e6)) true (by kernel_rfl) (fun hc => ?_) (fun hc => ?_)
  · replace h := h.1 (is_dec.t hc)
    obtain ⟨e7, hl, h⟩ := h
    refine t_load true none b4 o5 (.int .i64 e7) H3 (by kernel_rfl) hl ?_
    refine t_gd true true (by kernel_rfl) (fun _ => ?_) (fun hn => by cases hn)
    refine t_done [(.agg [(.int .i64 s0), (.int .i64 s1)]), (.ptr b4 o5), (.bool (decide (e7 < s1))), (.agg [(.int .i64 s0), (.int .i64 s1)])] H3 (by kernel_rfl) ?_
    refine then_norm ?_
    refine w_ret ?_
    exact body_ret (vs := [(.bool (decide (e7 < s1)))]) _ (by kernel_rfl) rfl h
  · replace h := h.2 (is_dec.f hc)
    refine t_gd false true (by kernel_rfl) (fun hn => by cases hn) (fun _ => ?_)
    refine t_done [(.agg [(.int .i64 s0), (.int .i64 s1)]), (.ptr b4 o5), (.bool false), (.agg [(.int .i64 s0), (.int .i64 s1)])] H3 (by kernel_rfl) ?_
    refine then_norm ?_
    refine w_ret ?_
    exact body_ret (vs := [(.bool false)]) _ (by kernel_rfl) rfl h

-- calendar_begin
def rf_calendar_begin : RFunc := ⟨1, 3, [.var 1],
 ((.seq (.ops [⟨.tomb 1 (.var 0), none, (some 2), true⟩, ⟨.move (.k (.int .i64 0)), none, (some 1), true⟩])
 ((.seq (.ops [⟨.field 0 none (.var 2), none, none, true⟩, ⟨.field 0 none (.var 2), none, none, true⟩, ⟨.bin .mul .no (.loc 1) (.k (.int .i64 1440)), none, none, true⟩, ⟨.field 0 none (.var 2), none, none, true⟩, ⟨.field 1 none (.var 2), none, none, true⟩, ⟨.bin .add .no (.loc 2) (.loc 4), none, none, true⟩, ⟨.move (.loc 5), none, (some 1), true⟩])
 (.ret)))))⟩
theorem v_calendar_begin {F : Nat → Option RFunc} {me : Nat} (hF : F me = some (rf_calendar_begin )) {fl : Nat} {H : Heap} {Q : AV → Heap → Prop} (w0 : Int) (w1 : Int) (w2 : Int)
  (h : ∀ (H3 : Heap), Dead1 H 1 H3 → Q (.int .i64 (IntKind.wrap .i64 ((IntKind.wrap .i64 (w0 * 1440)) + w1))) H3) : Ret F fl me [(.agg [(.int .i64 w0), (.int .i64 w1), (.int .i64 w2)])] H Q := by
  refine ret_intro hF rfl ?_
  refine w_seq ?_
  refine w_run [1, 0] ?_
  obtain ⟨H3, hb⟩ : ∃ H', Dead1 H 1 H' := ⟨_, ⟨rfl⟩⟩
  replace h := h H3 hb
  refine t_tomb true 1 (.agg [(.int .i64 w0), (.int .i64 w1), (.int .i64 w2)]) [(.int .i64 w0), (.int .i64 w1), (.int .i64 w2)] H3 H (by kernel_rfl) rfl hb ?_
  refine t_done [(.agg [(.int .i64 w0), (.int .i64 w1), (.int .i64 w2)]), (.int .i64 0), (.agg [(.int .i64 w0), (.int .i64 w1), (.int .i64 w2)])] H3 (by kernel_rfl) ?_
  refine then_norm ?_
  refine w_seq ?_
  refine w_run [0, 0, 0, 0, 0, 0, 0] ?_
  refine t_done [(.agg [(.int .i64 w0), (.int .i64 w1), (.int .i64 w2)]), (.int .i64 (IntKind.wrap .i64 ((IntKind.wrap .i64 (w0 * 1440)) + w1))), (.agg [(.int .i64 w0), (.int .i64 w1), (.int .i64 w2)])] H3 (by kernel_rfl) ?_
  refine then_norm ?_
  refine w_ret ?_
  exact body_ret (vs := [(.int .i64 (IntKind.wrap .i64 ((IntKind.wrap .i64 (w0 * 1440)) + w1)))]) _ (by kernel_rfl) rfl h

-- calendar_end
def rf_calendar_end : RFunc := ⟨1, 3, [.var 1],
 ((.seq (.ops [⟨.tomb 1 (.var 0), none, (some 2), true⟩, ⟨.move (.k (.int .i64 0)), none, (some 1), true⟩])
 ((.seq (.ops [⟨.field 0 none (.var 2), none, none, true⟩, ⟨.field 0 none (.var 2), none, none, true⟩, ⟨.bin .mul .no (.loc 1) (.k (.int .i64 1440)), none, none, true⟩, ⟨.field 0 none (.var 2), none, none, true⟩, ⟨.field 2 none (.var 2), none, none, true⟩, ⟨.bin .add .no (.loc 2) (.loc 4), none, none, true⟩, ⟨.move (.loc 5), none, (some 1), true⟩])
 (.ret)))))⟩
theorem v_calendar_end {F : Nat → Option RFunc} {me : Nat} (hF : F me = some (rf_calendar_end )) {fl : Nat} {H : Heap} {Q : AV → Heap → Prop} (w0 : Int) (w1 : Int) (w2 : Int)
  (h : ∀ (H3 : Heap), Dead1 H 1 H3 → Q (.int .i64 (IntKind.wrap .i64 ((IntKind.wrap .i64 (w0 * 1440)) + w2))) H3) : Ret F fl me [(.agg [(.int .i64 w0), (.int .i64 w1), (.int .i64 w2)])] H Q := by
  refine ret_intro hF rfl ?_
  refine w_seq ?_
  refine w_run [1, 0] ?_
  obtain ⟨H3, hb⟩ : ∃ H', Dead1 H 1 H' := ⟨_, ⟨rfl⟩⟩
  replace h := h H3 hb
  refine t_tomb true 1 (.agg [(.int .i64 w0), (.int .i64 w1), (.int .i64 w2)]) [(.int .i64 w0), (.int .i64 w1), (.int .i64 w2)] H3 H (by kernel_rfl) rfl hb ?_
  refine t_done [(.agg [(.int .i64 w0), (.int .i64 w1), (.int .i64 w2)]), (.int .i64 0), (.agg [(.int .i64 w0), (.int .i64 w1), (.int .i64 w2)])] H3 (by kernel_rfl) ?_
  refine then_norm ?_
  refine w_seq ?_
  refine w_run [0, 0, 0, 0, 0, 0, 0] ?_
  refine t_done [(.agg [(.int .i64 w0), (.int .i64 w1), (.int .i64 w2)]), (.int .i64 (IntKind.wrap .i64 ((IntKind.wrap .i64 (w0 * 1440)) + w2))), (.agg [(.int .i64 w0), (.int .i64 w1), (.int .i64 w2)])] H3 (by kernel_rfl) ?_
  refine then_norm ?_
  refine w_ret ?_
  exact body_ret (vs := [(.int .i64 (IntKind.wrap .i64 ((IntKind.wrap .i64 (w0 * 1440)) + w2)))]) _ (by kernel_rfl) rfl h

-- slices_IndexFunc__calendar_span_calendar_span
def rf_slices_IndexFunc__calendar_span_calendar_span : RFunc := ⟨2, 8, [.var 2],
 ((.seq (.ops [⟨.move (.k (.int .i64 0)), none, (some 2), true⟩])
 ((.seq ((.seq (.ops [⟨.move (.var 0), none, none, true⟩, ⟨.len (.loc 0), none, (some 4), true⟩, ⟨.move (.k (.int .i64 0)), none, (some 3), true⟩])
 (.block 0 (.loop ((.seq (.ops [⟨.bin .lss .no (.var 3) (.var 4), none, (some 5), true⟩])
 ((.seq (.cond (.var 5) (.skip) (.exit 0))
 ((.seq (.block 1 ((.seq (.ops [⟨.move (.var 3), none, none, true⟩, ⟨.move (.loc 0), none, (some 6), true⟩])
 ((.seq (.ops [⟨.move (.var 1), none, none, true⟩, ⟨.move (.var 0), none, none, true⟩, ⟨.move (.var 6), none, none, true⟩, ⟨.indexAddr 2 (.loc 1) (.loc 2), none, none, true⟩, ⟨.load (some 2) (.loc 3), none, none, true⟩, ⟨.call (.loc 0) [(.loc 4)], none, (some 7), true⟩])
 (.cond (.var 7) ((.seq (.ops [⟨.move (.var 6), none, none, true⟩, ⟨.move (.loc 0), none, (some 2), true⟩])
 (.ret))) (.skip)))))))
 (.ops [⟨.bin .add .no (.var 3) (.k (.int .i64 1)), none, none, true⟩, ⟨.move (.loc 0), none, (some 3), true⟩])))))))))))
 ((.seq (.ops [⟨.move (.k (.int .i64 (-1))), none, (some 2), true⟩])
 (.ret)))))))⟩
theorem v_slices_IndexFunc__calendar_span_calendar_span {F : Nat → Option RFunc} {me : Nat} (hF : F me = some (rf_slices_IndexFunc__calendar_span_calendar_span )) {fl : Nat} {H : Heap} {Q : AV → Heap → Prop} (s0 : AV) (fg1 : Nat) (fc2 : List AV)
  (h : ∃ len3 : Nat, lenA s0 = some len3 ∧ ∃ (J4 : Nat → Int → Heap → Prop) (k5 : Nat), J4 k5 0 H ∧ (∀ (m6 : Nat) (v8 : Int) (H12 : Heap), J4 m6 v8 H12 → ((v8 < (len3 : Int)) → ∃ (e13 : Int) (e14 : Int), getA H12 2 (some 2) s0 v8 0 = some (.agg [(.int .i64 e13), (.int .i64 e14)]) ∧ Ret F fl fg1 (([(.agg [(.int .i64 e13), (.int .i64 e14)])] : List AV) ++ fc2) H12 (fun v18 H17 => ∃ (r16 : Bool), v18 = (.bool r16) ∧ ((r16 = true) → Q (.int .i64 v8) H17) ∧ (¬(r16 = true) → ∃ m19 : Nat, m19 < m6 ∧ J4 m19 (IntKind.wrap .i64 (v8 + 1)) H17))) ∧ (¬(v8 < (len3 : Int)) → Q (.int .i64 (-1)) H12))) : Ret F fl me [s0, (.func fg1 fc2)] H Q := by
  refine ret_intro hF rfl ?_
  refine w_seq ?_
  refine w_run [0] ?_
  refine t_done [s0, (.func fg1 fc2), (.int .i64 0), .undef, .undef, .undef, .undef, .undef] H (by kernel_rfl) ?_
  refine then_norm ?_
  refine w_seq ?_
  refine w_seq ?_
  refine w_run [0, 1, 0] ?_
  obtain ⟨len3, hl, h⟩ := h
  refine t_len true s0 len3 H (by kernel_rfl) hl ?_
  refine t_done [s0, (.func fg1 fc2), (.int .i64 0), (.int .i64 0), (.int .i64 (len3 : Int)), .undef, .undef, .undef] H (by kernel_rfl) ?_
  refine then_norm ?_
  refine w_block ?_
  obtain ⟨J4, k5, h0, h⟩ := h
  refine w_loop (I := fun mI EI HI => ∃ (d7 : AV) (v8 : Int) (d9 : AV) (d10 : AV) (d11 : AV), EI = [s0, (.func fg1 fc2), d7, (.int .i64 v8), (.int .i64 (len3 : Int)), d9, d10, d11] ∧ J4 mI v8 HI) ?_ k5 ⟨_, _, _, _, _, rfl, h0⟩
  clear h0
  rintro m6 EI H12 ⟨d7, v8, d9, d10, d11, rfl, hJ⟩
  replace h := h m6 v8 H12 hJ
  clear hJ
  refine w_seq ?_
  refine w_run [0] ?_
  refine t_done [s0, (.func fg1 fc2), d7, (.int .i64 v8), (.int .i64 (len3 : Int)), (.bool (decide (v8 < (len3 : Int)))), d10, d11] H12 (by kernel_rfl) ?_
  refine then_norm ?_
  refine w_seq ?_
  refine w_cond (t := (decide (v8 < (len3 : Int)))) rfl (fun hc => ?_) (fun hc => ?_)
  · replace h := h.1 (is_dec.t hc)
    refine w_skip ?_
    refine then_norm ?_
    refine w_seq ?_
    refine w_block ?_
    refine w_seq ?_
    refine w_run [0, 0] ?_
    refine t_done [s0, (.func fg1 fc2), d7, (.int .i64 v8), (.int .i64 (len3 : Int)), (.bool (decide (v8 < (len3 : Int)))), (.int .i64 v8), d11] H12 (by kernel_rfl) ?_
    refine then_norm ?_
    refine w_seq ?_
    refine w_run [0, 0, 0, 1, 1, 1] ?_
    obtain ⟨e13, e14, hg15, h⟩ := h
    refine t_idxG true 2 s0 .i64 v8 H12 (by kernel_rfl) hg15 ?_
    refine t_loadG true (some 2) 2 s0 v8 0 (.agg [(.int .i64 e13), (.int .i64 e14)]) H12 (by kernel_rfl) hg15 ?_
    refine t_call true fg1 (([(.agg [(.int .i64 e13), (.int .i64 e14)])] : List AV) ++ fc2) H12 (by kernel_rfl) h ?_
    clear h
    rintro _ H17 ⟨r16, rfl, h⟩
    refine t_done [s0, (.func fg1 fc2), d7, (.int .i64 v8), (.int .i64 (len3 : Int)), (.bool (decide (v8 < (len3 : Int)))), (.int .i64 v8), (.bool r16)] H17 (by kernel_rfl) ?_
    refine then_norm ?_
    refine w_cond (t := r16) rfl (fun hc => ?_) (fun hc => ?_)
    · replace h := h.1 (is_raw.t hc)
      refine w_seq ?_
      refine w_run [0, 0] ?_
      refine t_done [s0, (.func fg1 fc2), (.int .i64 v8), (.int .i64 v8), (.int .i64 (len3 : Int)), (.bool (decide (v8 < (len3 : Int)))), (.int .i64 v8), (.bool r16)] H17 (by kernel_rfl) ?_
      refine then_norm ?_
      refine w_ret ?_
      refine block_ret ?_
      refine then_ret ?_
      refine loop_ret ?_
      refine block_ret ?_
      refine then_ret ?_
      exact body_ret (vs := [(.int .i64 v8)]) _ (by kernel_rfl) rfl h
    · replace h := h.2 (is_raw.f hc)
      refine w_skip ?_
      refine block_norm ?_
      refine then_norm ?_
      refine w_run [0, 0] ?_
      refine t_done [s0, (.func fg1 fc2), d7, (.int .i64 (IntKind.wrap .i64 (v8 + 1))), (.int .i64 (len3 : Int)), (.bool (decide (v8 < (len3 : Int)))), (.int .i64 v8), (.bool r16)] H17 (by kernel_rfl) ?_
      obtain ⟨m', hm, h⟩ := h
      refine loop_norm ⟨m', hm, _, _, _, _, _, rfl, h⟩
  · replace h := h.2 (is_dec.f hc)
    refine w_exit ?_
    refine then_exit ?_
    refine loop_exit ?_
    refine block_exit ?_
    refine then_norm ?_
    refine w_seq ?_
    refine w_run [0] ?_
    refine t_done [s0, (.func fg1 fc2), (.int .i64 (-1)), (.int .i64 v8), (.int .i64 (len3 : Int)), (.bool (decide (v8 < (len3 : Int)))), d10, d11] H12 (by kernel_rfl) ?_
    refine then_norm ?_
    refine w_ret ?_
    exact body_ret (vs := [(.int .i64 (-1))]) _ (by kernel_rfl) rfl h

-- slices_BinarySearch__int_int
def rf_slices_BinarySearch__int_int (ncmp_Less_int nslices_isNaN_int : Nat) : RFunc := ⟨2, 10, [.var 2, .var 3],
 ((.seq (.ops [⟨.move (.k (.int .i64 0)), none, (some 2), true⟩, ⟨.move (.k (.bool false)), none, (some 3), true⟩])
 ((.seq (.ops [⟨.move (.var 0), none, none, true⟩, ⟨.len (.loc 0), none, none, true⟩, ⟨.move (.loc 1), none, (some 4), true⟩])
 ((.seq (.ops [⟨.move (.var 4), none, none, true⟩, ⟨.move (.k (.int .i64 0)), none, (some 5), true⟩, ⟨.move (.loc 0), none, (some 6), true⟩])
 ((.seq (.block 0 (.loop ((.seq ((.seq (.ops [⟨.move (.var 5), none, none, true⟩, ⟨.move (.var 6), none, none, true⟩, ⟨.bin .lss .no (.loc 0) (.loc 1), none, (some 7), true⟩])
 (.cond (.var 7) (.skip) (.exit 0))))
 (.block 1 ((.seq (.ops [⟨.move (.var 5), none, none, true⟩, ⟨.move (.var 6), none, none, true⟩, ⟨.bin .add .no (.loc 0) (.loc 1), none, none, true⟩, ⟨.convInt .u64 (.loc 2), none, none, true⟩, ⟨.bin .shr .no (.loc 3) (.k (.int .u64 1)), none, none, true⟩, ⟨.convInt .i64 (.loc 4), none, none, true⟩, ⟨.move (.loc 5), none, (some 8), true⟩])
 ((.seq (.ops [⟨.move (.var 0), none, none, true⟩, ⟨.move (.var 8), none, none, true⟩, ⟨.indexAddr 1 (.loc 0) (.loc 1), none, none, true⟩, ⟨.load none (.loc 2), none, none, true⟩, ⟨.move (.var 1), none, none, true⟩, ⟨.callS ncmp_Less_int [(.loc 3), (.loc 4)], none, (some 9), true⟩])
 (.cond (.var 9) (.ops [⟨.move (.var 8), none, none, true⟩, ⟨.bin .add .no (.loc 0) (.k (.int .i64 1)), none, none, true⟩, ⟨.move (.loc 1), none, (some 5), true⟩]) (.ops [⟨.move (.var 8), none, none, true⟩, ⟨.move (.loc 0), none, (some 6), true⟩])))))))))))
 ((.seq (.ops [⟨.move (.var 5), none, none, true⟩, ⟨.move (.var 5), none, none, true⟩, ⟨.move (.var 4), none, none, true⟩, ⟨.bin .lss .no (.loc 1) (.loc 2), none, none, true⟩, ⟨.move (.loc 3), none, none, true⟩, ⟨.move (.var 0), none, none, true⟩, ⟨.move (.var 5), none, none, true⟩, ⟨.indexAddr 1 (.loc 5) (.loc 6), (some (4, true)), none, true⟩, ⟨.load none (.loc 7), (some (4, true)), none, true⟩, ⟨.move (.var 1), none, none, true⟩, ⟨.bin .eql .no (.loc 8) (.loc 9), (some (4, true)), none, true⟩, ⟨.move (.loc 10), (some (4, true)), none, true⟩, ⟨.move (.var 0), none, none, true⟩, ⟨.move (.var 5), none, none, true⟩, ⟨.indexAddr 1 (.loc 12) (.loc 13), (some (11, false)), none, true⟩, ⟨.load none (.loc 14), (some (11, false)), none, true⟩, ⟨.callS nslices_isNaN_int [(.loc 15)], (some (11, false)), none, true⟩, ⟨.move (.loc 16), (some (11, false)), none, true⟩, ⟨.move (.var 1), none, none, true⟩, ⟨.callS nslices_isNaN_int [(.loc 18)], (some (17, true)), none, true⟩, ⟨.pick (.loc 17) (.loc 19) (.k (.bool false)), (some (11, false)), none, true⟩, ⟨.pick (.loc 11) (.k (.bool true)) (.loc 20), (some (4, true)), none, true⟩, ⟨.pick (.loc 4) (.loc 21) (.k (.bool false)), none, none, true⟩, ⟨.move (.loc 0), none, (some 2), true⟩, ⟨.move (.loc 22), none, (some 3), true⟩])
 (.ret)))))))))))⟩
theorem v_slices_BinarySearch__int_int {F : Nat → Option RFunc} {me ncmp_Less_int nslices_isNaN_int : Nat} (hF : F me = some (rf_slices_BinarySearch__int_int ncmp_Less_int nslices_isNaN_int)) {fl : Nat} {H : Heap} {Q : AV → Heap → Prop} (x0 : AV) (target1 : Int)
  (h : ∃ len2 : Nat, lenA x0 = some len2 ∧ ∃ (J3 : Nat → Int → Int → Heap → Prop) (k4 : Nat), J3 k4 0 (len2 : Int) H ∧ (∀ (m5 : Nat) (i6 : Int) (j7 : Int) (H11 : Heap), J3 m5 i6 j7 H11 → ((i6 < j7) → ∃ (e12 : Int), getA H11 1 none x0 (IntKind.wrap .i64 ((Int.fdiv (IntKind.wrap .u64 ((IntKind.wrap .i64 (i6 + j7)))) (2 ^ (Min.min (Int.toNat 1) (IntKind.bits .u64)))))) 0 = some (.int .i64 e12) ∧ Ret F fl ncmp_Less_int [(.int .i64 e12), (.int .i64 target1)] H11 (fun v16 H15 => ∃ (r14 : Bool), v16 = (.bool r14) ∧ ((r14 = true) → ∃ m17 : Nat, m17 < m5 ∧ J3 m17 (IntKind.wrap .i64 ((IntKind.wrap .i64 ((Int.fdiv (IntKind.wrap .u64 ((IntKind.wrap .i64 (i6 + j7)))) (2 ^ (Min.min (Int.toNat 1) (IntKind.bits .u64)))))) + 1)) j7 H15) ∧ (¬(r14 = true) → ∃ m18 : Nat, m18 < m5 ∧ J3 m18 i6 (IntKind.wrap .i64 ((Int.fdiv (IntKind.wrap .u64 ((IntKind.wrap .i64 (i6 + j7)))) (2 ^ (Min.min (Int.toNat 1) (IntKind.bits .u64)))))) H15))) ∧ (¬(i6 < j7) → ((i6 < (len2 : Int)) → ∃ (e19 : Int), getA H11 1 none x0 i6 0 = some (.int .i64 e19) ∧ ((e19 = target1) → Q (.tuple [(.int .i64 i6), (.bool true)]) H11) ∧ (¬(e19 = target1) → ∃ (e21 : Int), getA H11 1 none x0 i6 0 = some (.int .i64 e21) ∧ Ret F fl nslices_isNaN_int [(.int .i64 e21)] H11 (fun v25 H24 => ∃ (r23 : Bool), v25 = (.bool r23) ∧ ((r23 = true) → Ret F fl nslices_isNaN_int [(.int .i64 target1)] H24 (fun v28 H27 => ∃ (r26 : Bool), v28 = (.bool r26) ∧ Q (.tuple [(.int .i64 i6), (.bool r26)]) H27)) ∧ (¬(r23 = true) → Q (.tuple [(.int .i64 i6), (.bool false)]) H24)))) ∧ (¬(i6 < (len2 : Int)) → Q (.tuple [(.int .i64 i6), (.bool false)]) H11)))) : Ret F fl me [x0, (.int .i64 target1)] H Q := by
  refine ret_intro hF rfl ?_
  refine w_seq ?_
  refine w_run [0, 0] ?_
  refine t_done [x0, (.int .i64 target1), (.int .i64 0), (.bool false), .undef, .undef, .undef, .undef, .undef, .undef] H (by kernel_rfl) ?_
  refine then_norm ?_
  refine w_seq ?_
  refine w_run [0, 1, 0] ?_
  obtain ⟨len2, hl, h⟩ := h
  refine t_len true x0 len2 H (by kernel_rfl) hl ?_
  refine t_done [x0, (.int .i64 target1), (.int .i64 0), (.bool false), (.int .i64 (len2 : Int)), .undef, .undef, .undef, .undef, .undef] H (by kernel_rfl) ?_
  refine then_norm ?_
  refine w_seq ?_
  refine w_run [0, 0, 0] ?_
  refine t_done [x0, (.int .i64 target1), (.int .i64 0), (.bool false), (.int .i64 (len2 : Int)), (.int .i64 0), (.int .i64 (len2 : Int)), .undef, .undef, .undef] H (by kernel_rfl) ?_
  refine then_norm ?_
  refine w_seq ?_
  refine w_block ?_
  obtain ⟨J3, k4, h0, h⟩ := h
  refine w_loop (I := fun mI EI HI => ∃ (i6 : Int) (j7 : Int) (d8 : AV) (d9 : AV) (d10 : AV), EI = [x0, (.int .i64 target1), (.int .i64 0), (.bool false), (.int .i64 (len2 : Int)), (.int .i64 i6), (.int .i64 j7), d8, d9, d10] ∧ J3 mI i6 j7 HI) ?_ k4 ⟨_, _, _, _, _, rfl, h0⟩
  clear h0
  rintro m5 EI H11 ⟨i6, j7, d8, d9, d10, rfl, hJ⟩
  replace h := h m5 i6 j7 H11 hJ
  clear hJ
  refine w_seq ?_
  refine w_seq ?_
  refine w_run [0, 0, 0] ?_
  refine t_done [x0, (.int .i64 target1), (.int .i64 0), (.bool false), (.int .i64 (len2 : Int)), (.int .i64 i6), (.int .i64 j7), (.bool (decide (i6 < j7))), d9, d10] H11 (by kernel_rfl) ?_
  refine then_norm ?_
  refine w_cond (t := (decide (i6 < j7))) rfl (fun hc => ?_) (fun hc => ?_)
  · replace h := h.1 (is_dec.t hc)
    refine w_skip ?_
    refine then_norm ?_
    refine w_block ?_
    refine w_seq ?_
    refine w_run [0, 0, 0, 0, 1, 0, 0] ?_
    refine t_shr true .no .u64 .u64 (IntKind.wrap .u64 ((IntKind.wrap .i64 (i6 + j7)))) 1 H11 (by kernel_rfl) (by decide) ?_
    refine t_done [x0, (.int .i64 target1), (.int .i64 0), (.bool false), (.int .i64 (len2 : Int)), (.int .i64 i6), (.int .i64 j7), (.bool (decide (i6 < j7))), (.int .i64 (IntKind.wrap .i64 ((Int.fdiv (IntKind.wrap .u64 ((IntKind.wrap .i64 (i6 + j7)))) (2 ^ (Min.min (Int.toNat 1) (IntKind.bits .u64))))))), d10] H11 (by kernel_rfl) ?_
    refine then_norm ?_
    refine w_seq ?_
    refine w_run [0, 0, 1, 1, 0, 1] ?_
    obtain ⟨e12, hg13, h⟩ := h
    refine t_idxG true 1 x0 .i64 (IntKind.wrap .i64 ((Int.fdiv (IntKind.wrap .u64 ((IntKind.wrap .i64 (i6 + j7)))) (2 ^ (Min.min (Int.toNat 1) (IntKind.bits .u64)))))) H11 (by kernel_rfl) hg13 ?_
    refine t_loadG true none 1 x0 (IntKind.wrap .i64 ((Int.fdiv (IntKind.wrap .u64 ((IntKind.wrap .i64 (i6 + j7)))) (2 ^ (Min.min (Int.toNat 1) (IntKind.bits .u64)))))) 0 (.int .i64 e12) H11 (by kernel_rfl) hg13 ?_
    refine t_call true ncmp_Less_int [(.int .i64 e12), (.int .i64 target1)] H11 (by kernel_rfl) h ?_
    clear h
    rintro _ H15 ⟨r14, rfl, h⟩
    refine t_done [x0, (.int .i64 target1), (.int .i64 0), (.bool false), (.int .i64 (len2 : Int)), (.int .i64 i6), (.int .i64 j7), (.bool (decide (i6 < j7))), (.int .i64 (IntKind.wrap .i64 ((Int.fdiv (IntKind.wrap .u64 ((IntKind.wrap .i64 (i6 + j7)))) (2 ^ (Min.min (Int.toNat 1) (IntKind.bits .u64))))))), (.bool r14)] H15 (by kernel_rfl) ?_
    refine then_norm ?_
    refine w_cond (t := r14) rfl (fun hc => ?_) (fun hc => ?_)
    · replace h := h.1 (is_raw.t hc)
      refine w_run [0, 0, 0] ?_
      refine t_done [x0, (.int .i64 target1), (.int .i64 0), (.bool false), (.int .i64 (len2 : Int)), (.int .i64 (IntKind.wrap .i64 ((IntKind.wrap .i64 ((Int.fdiv (IntKind.wrap .u64 ((IntKind.wrap .i64 (i6 + j7)))) (2 ^ (Min.min (Int.toNat 1) (IntKind.bits .u64)))))) + 1))), (.int .i64 j7), (.bool (decide (i6 < j7))), (.int .i64 (IntKind.wrap .i64 ((Int.fdiv (IntKind.wrap .u64 ((IntKind.wrap .i64 (i6 + j7)))) (2 ^ (Min.min (Int.toNat 1) (IntKind.bits .u64))))))), (.bool r14)] H15 (by kernel_rfl) ?_
      refine block_norm ?_
      obtain ⟨m', hm, h⟩ := h
      refine loop_norm ⟨m', hm, _, _, _, _, _, rfl, h⟩
    · replace h := h.2 (is_raw.f hc)
      refine w_run [0, 0] ?_
      refine t_done [x0, (.int .i64 target1), (.int .i64 0), (.bool false), (.int .i64 (len2 : Int)), (.int .i64 i6), (.int .i64 (IntKind.wrap .i64 ((Int.fdiv (IntKind.wrap .u64 ((IntKind.wrap .i64 (i6 + j7)))) (2 ^ (Min.min (Int.toNat 1) (IntKind.bits .u64))))))), (.bool (decide (i6 < j7))), (.int .i64 (IntKind.wrap .i64 ((Int.fdiv (IntKind.wrap .u64 ((IntKind.wrap .i64 (i6 + j7)))) (2 ^ (Min.min (Int.toNat 1) (IntKind.bits .u64))))))), (.bool r14)] H15 (by kernel_rfl) ?_
      refine block_norm ?_
      obtain ⟨m', hm, h⟩ := h
      refine loop_norm ⟨m', hm, _, _, _, _, _, rfl, h⟩
  · replace h := h.2 (is_dec.f hc)
    refine w_exit ?_
    refine then_exit ?_
    refine loop_exit ?_
    refine block_exit ?_
    refine then_norm ?_
    refine w_seq ?_
    refine w_run [0, 0, 0, 0, 0, 0, 0, 3, 3, 0, 2, 2, 0, 0, 3, 3, 3, 2, 0, 3, 2, 2, 0, 0, 0] ?_
    refine t_gd (decide (i6 < (len2 : Int))) true (by kernel_rfl) (fun hc => ?_) (fun hc => ?_)
    · replace h := h.1 (is_dec.t hc)
      obtain ⟨e19, hg20, h⟩ := h
      refine t_idxG true 1 x0 .i64 i6 H11 (by kernel_rfl) hg20 ?_
      refine t_gd true true (by kernel_rfl) (fun _ => ?_) (fun hn => by cases hn)
      refine t_loadG true none 1 x0 i6 0 (.int .i64 e19) H11 (by kernel_rfl) hg20 ?_
      refine t_gd true true (by kernel_rfl) (fun _ => ?_) (fun hn => by cases hn)
      refine t_gd true true (by kernel_rfl) (fun _ => ?_) (fun hn => by cases hn)
      refine t_gd ((e19) == target1) false (by kernel_rfl) (fun hc => ?_) (fun hc => ?_)
      · replace h := h.2 (is_eq.f hc)
        obtain ⟨e21, hg22, h⟩ := h
        refine t_idxG true 1 x0 .i64 i6 H11 (by kernel_rfl) hg22 ?_
        refine t_gd false false (by kernel_rfl) (fun _ => ?_) (fun hn => by cases hn)
        refine t_loadG true none 1 x0 i6 0 (.int .i64 e21) H11 (by kernel_rfl) hg22 ?_
        refine t_gd false false (by kernel_rfl) (fun _ => ?_) (fun hn => by cases hn)
        refine t_call true nslices_isNaN_int [(.int .i64 e21)] H11 (by kernel_rfl) h ?_
        clear h
        rintro _ H24 ⟨r23, rfl, h⟩
        refine t_gd false false (by kernel_rfl) (fun _ => ?_) (fun hn => by cases hn)
        refine t_gd r23 true (by kernel_rfl) (fun hc => ?_) (fun hc => ?_)
        · replace h := h.1 (is_raw.t hc)
          refine t_call true nslices_isNaN_int [(.int .i64 target1)] H24 (by kernel_rfl) h ?_
          clear h
          rintro _ H27 ⟨r26, rfl, h⟩
          refine t_gd false false (by kernel_rfl) (fun _ => ?_) (fun hn => by cases hn)
          refine t_gd true true (by kernel_rfl) (fun _ => ?_) (fun hn => by cases hn)
          refine t_done [x0, (.int .i64 target1), (.int .i64 i6), (.bool r26), (.int .i64 (len2 : Int)), (.int .i64 i6), (.int .i64 j7), (.bool (decide (i6 < j7))), d9, d10] H27 (by kernel_rfl) ?_
          refine then_norm ?_
          refine w_ret ?_
          exact body_ret (vs := [(.int .i64 i6), (.bool r26)]) _ (by kernel_rfl) rfl h
        · replace h := h.2 (is_raw.f hc)
          refine t_gd false false (by kernel_rfl) (fun _ => ?_) (fun hn => by cases hn)
          refine t_gd true true (by kernel_rfl) (fun _ => ?_) (fun hn => by cases hn)
          refine t_done [x0, (.int .i64 target1), (.int .i64 i6), (.bool false), (.int .i64 (len2 : Int)), (.int .i64 i6), (.int .i64 j7), (.bool (decide (i6 < j7))), d9, d10] H24 (by kernel_rfl) ?_
          refine then_norm ?_
          refine w_ret ?_
          exact body_ret (vs := [(.int .i64 i6), (.bool false)]) _ (by kernel_rfl) rfl h
      · replace h := h.1 (is_eq.t hc)
        refine t_gd true false (by kernel_rfl) (fun hn => by cases hn) (fun _ => ?_)
        refine t_gd true false (by kernel_rfl) (fun hn => by cases hn) (fun _ => ?_)
        refine t_gd true false (by kernel_rfl) (fun hn => by cases hn) (fun _ => ?_)
        refine t_gdU true (by kernel_rfl) ?_
        refine t_gd true false (by kernel_rfl) (fun hn => by cases hn) (fun _ => ?_)
        refine t_gd true true (by kernel_rfl) (fun _ => ?_) (fun hn => by cases hn)
        refine t_done [x0, (.int .i64 target1), (.int .i64 i6), (.bool true), (.int .i64 (len2 : Int)), (.int .i64 i6), (.int .i64 j7), (.bool (decide (i6 < j7))), d9, d10] H11 (by kernel_rfl) ?_
        refine then_norm ?_
        refine w_ret ?_
        exact body_ret (vs := [(.int .i64 i6), (.bool true)]) _ (by kernel_rfl) rfl h
    · replace h := h.2 (is_dec.f hc)
      refine t_gd false true (by kernel_rfl) (fun hn => by cases hn) (fun _ => ?_)
      refine t_gd false true (by kernel_rfl) (fun hn => by cases hn) (fun _ => ?_)
      refine t_gd false true (by kernel_rfl) (fun hn => by cases hn) (fun _ => ?_)
      refine t_gdU false (by kernel_rfl) ?_
      refine t_gdU false (by kernel_rfl) ?_
      refine t_gdU false (by kernel_rfl) ?_
      refine t_gdU false (by kernel_rfl) ?_
      refine t_gdU true (by kernel_rfl) ?_
      refine t_gdU false (by kernel_rfl) ?_
      refine t_gd false true (by kernel_rfl) (fun hn => by cases hn) (fun _ => ?_)
      refine t_done [x0, (.int .i64 target1), (.int .i64 i6), (.bool false), (.int .i64 (len2 : Int)), (.int .i64 i6), (.int .i64 j7), (.bool (decide (i6 < j7))), d9, d10] H11 (by kernel_rfl) ?_
      refine then_norm ?_
      refine w_ret ?_
      exact body_ret (vs := [(.int .i64 i6), (.bool false)]) _ (by kernel_rfl) rfl h

-- cmp_Less_int
def rf_cmp_Less_int (ncmp_isNaN_int : Nat) : RFunc := ⟨2, 3, [.var 2],
 ((.seq (.ops [⟨.move (.k (.bool false)), none, (some 2), true⟩])
 ((.seq (.ops [⟨.move (.var 0), none, none, true⟩, ⟨.callS ncmp_isNaN_int [(.loc 0)], none, none, true⟩, ⟨.move (.loc 1), none, none, true⟩, ⟨.move (.var 1), none, none, true⟩, ⟨.callS ncmp_isNaN_int [(.loc 3)], (some (2, true)), none, true⟩, ⟨.un .not (.loc 4), (some (2, true)), none, true⟩, ⟨.pick (.loc 2) (.loc 5) (.k (.bool false)), none, none, true⟩, ⟨.move (.loc 6), none, none, true⟩, ⟨.move (.var 0), none, none, true⟩, ⟨.move (.var 1), none, none, true⟩, ⟨.bin .lss .no (.loc 8) (.loc 9), none, none, true⟩, ⟨.pick (.loc 7) (.k (.bool true)) (.loc 10), none, none, true⟩, ⟨.move (.loc 11), none, (some 2), true⟩])
 (.ret)))))⟩
theorem v_cmp_Less_int {F : Nat → Option RFunc} {me ncmp_isNaN_int : Nat} (hF : F me = some (rf_cmp_Less_int ncmp_isNaN_int)) {fl : Nat} {H : Heap} {Q : AV → Heap → Prop} (x0 : Int) (y1 : Int)
  (h : Ret F fl ncmp_isNaN_int [(.int .i64 x0)] H (fun v4 H3 => ∃ (r2 : Bool), v4 = (.bool r2) ∧ ((r2 = true) → Ret F fl ncmp_isNaN_int [(.int .i64 y1)] H3 (fun v7 H6 => ∃ (r5 : Bool), v7 = (.bool r5) ∧ Q (.bool ((!r5) || (decide (x0 < y1)))) H6)) ∧ (¬(r2 = true) → Q (.bool (decide (x0 < y1))) H3))) : Ret F fl me [(.int .i64 x0), (.int .i64 y1)] H Q := by
  refine ret_intro hF rfl ?_
  refine w_seq ?_
  refine w_run [0] ?_
  refine t_done [(.int .i64 x0), (.int .i64 y1), (.bool false)] H (by kernel_rfl) ?_
  refine then_norm ?_
  refine w_seq ?_
  refine w_run [0, 1, 0, 0, 3, 2, 0, 0, 0, 0, 0, 0, 0] ?_
  refine t_call true ncmp_isNaN_int [(.int .i64 x0)] H (by kernel_rfl) h ?_
  clear h
  rintro _ H3 ⟨r2, rfl, h⟩
  refine t_gd r2 true (by kernel_rfl) (fun hc => ?_) (fun hc => ?_)
  · replace h := h.1 (is_raw.t hc)
    refine t_call true ncmp_isNaN_int [(.int .i64 y1)] H3 (by kernel_rfl) h ?_
    clear h
    rintro _ H6 ⟨r5, rfl, h⟩
    refine t_gd true true (by kernel_rfl) (fun _ => ?_) (fun hn => by cases hn)
    refine t_done [(.int .i64 x0), (.int .i64 y1), (.bool ((!r5) || (decide (x0 < y1))))] H6 (by kernel_rfl) ?_
    refine then_norm ?_
    refine w_ret ?_
    exact body_ret (vs := [(.bool ((!r5) || (decide (x0 < y1))))]) _ (by kernel_rfl) rfl h
  · replace h := h.2 (is_raw.f hc)
    refine t_gd false true (by kernel_rfl) (fun hn => by cases hn) (fun _ => ?_)
    refine t_done [(.int .i64 x0), (.int .i64 y1), (.bool (decide (x0 < y1)))] H3 (by kernel_rfl) ?_
    refine then_norm ?_
    refine w_ret ?_
    exact body_ret (vs := [(.bool (decide (x0 < y1)))]) _ (by kernel_rfl) rfl h

-- slices_isNaN_int
def rf_slices_isNaN_int : RFunc := ⟨1, 2, [.var 1],
 ((.seq (.ops [⟨.move (.k (.bool false)), none, (some 1), true⟩])
 ((.seq (.ops [⟨.move (.var 0), none, none, true⟩, ⟨.move (.var 0), none, none, true⟩, ⟨.bin .neq .no (.loc 0) (.loc 1), none, none, true⟩, ⟨.move (.loc 2), none, (some 1), true⟩])
 (.ret)))))⟩
theorem v_slices_isNaN_int {F : Nat → Option RFunc} {me : Nat} (hF : F me = some (rf_slices_isNaN_int )) {fl : Nat} {H : Heap} {Q : AV → Heap → Prop} (x0 : Int)
  (h : Q (.bool ((x0) != x0)) H) : Ret F fl me [(.int .i64 x0)] H Q := by
  refine ret_intro hF rfl ?_
  refine w_seq ?_
  refine w_run [0] ?_
  refine t_done [(.int .i64 x0), (.bool false)] H (by kernel_rfl) ?_
  refine then_norm ?_
  refine w_seq ?_
  refine w_run [0, 0, 0, 0] ?_
  refine t_done [(.int .i64 x0), (.bool ((x0) != x0))] H (by kernel_rfl) ?_
  refine then_norm ?_
  refine w_ret ?_
  exact body_ret (vs := [(.bool ((x0) != x0))]) _ (by kernel_rfl) rfl h

-- cmp_isNaN_int
def rf_cmp_isNaN_int : RFunc := ⟨1, 2, [.var 1],
 ((.seq (.ops [⟨.move (.k (.bool false)), none, (some 1), true⟩])
 ((.seq (.ops [⟨.move (.var 0), none, none, true⟩, ⟨.move (.var 0), none, none, true⟩, ⟨.bin .neq .no (.loc 0) (.loc 1), none, none, true⟩, ⟨.move (.loc 2), none, (some 1), true⟩])
 (.ret)))))⟩
theorem v_cmp_isNaN_int {F : Nat → Option RFunc} {me : Nat} (hF : F me = some (rf_cmp_isNaN_int )) {fl : Nat} {H : Heap} {Q : AV → Heap → Prop} (x0 : Int)
  (h : Q (.bool ((x0) != x0)) H) : Ret F fl me [(.int .i64 x0)] H Q := by
  refine ret_intro hF rfl ?_
  refine w_seq ?_
  refine w_run [0] ?_
  refine t_done [(.int .i64 x0), (.bool false)] H (by kernel_rfl) ?_
  refine then_norm ?_
  refine w_seq ?_
  refine w_run [0, 0, 0, 0] ?_
  refine t_done [(.int .i64 x0), (.bool ((x0) != x0))] H (by kernel_rfl) ?_
  refine then_norm ?_
  refine w_ret ?_
  exact body_ret (vs := [(.bool ((x0) != x0))]) _ (by kernel_rfl) rfl h

-- FCalendarFault
def rf_FCalendarFault (nFFault : Nat) : RFunc := ⟨1, 16, [.part 1 (some 2)],
 ((.seq (.ops [⟨.tomb 1 (.var 0), none, (some 2), true⟩, ⟨.tomb 1 (.k (.agg [.int .i64 0, .int .i64 0])), none, (some 1), true⟩])
 ((.seq ((.seq (.ops [⟨.field 0 none (.var 2), none, none, true⟩, ⟨.field 0 none (.var 2), none, none, true⟩, ⟨.len (.loc 1), none, none, true⟩, ⟨.bin .gtr .no (.loc 2) (.k (.int .i64 12)), none, (some 3), true⟩])
 (.cond (.var 3) ((.seq (.ops [⟨.callS nFFault [(.k (.int .i64 2)), (.k (.int .i64 (-1)))], none, none, true⟩, ⟨.upd 2 0 (.var 1) (.loc 0), none, (some 1), true⟩])
 (.ret))) (.skip))))
 ((.seq ((.seq (.ops [⟨.field 0 none (.var 2), none, none, true⟩, ⟨.field 1 none (.var 2), none, none, true⟩, ⟨.len (.loc 1), none, none, true⟩, ⟨.bin .gtr .no (.loc 2) (.k (.int .i64 12)), none, (some 4), true⟩])
 (.cond (.var 4) ((.seq (.ops [⟨.callS nFFault [(.k (.int .i64 2)), (.k (.int .i64 (-2)))], none, none, true⟩, ⟨.upd 2 0 (.var 1) (.loc 0), none, (some 1), true⟩])
 (.ret))) (.skip))))
 ((.seq ((.seq (.ops [⟨.move (.k (.int .i64 0)), none, (some 5), true⟩])
 (.block 0 (.loop ((.seq ((.seq (.ops [⟨.move (.var 5), none, none, true⟩, ⟨.field 0 none (.var 2), none, none, true⟩, ⟨.field 0 none (.var 2), none, none, true⟩, ⟨.len (.loc 2), none, none, true⟩, ⟨.bin .lss .no (.loc 0) (.loc 3), none, (some 6), true⟩])
 (.cond (.var 6) (.skip) (.exit 0))))
 ((.seq (.block 1 ((.seq (.ops [⟨.field 0 none (.var 2), none, none, true⟩, ⟨.field 0 none (.var 2), none, none, true⟩, ⟨.move (.var 5), none, none, true⟩, ⟨.indexAddr 3 (.loc 1) (.loc 2), none, none, true⟩, ⟨.load (some 3) (.loc 3), none, none, true⟩, ⟨.tomb 1 (.k (.agg [.int .i64 0, .int .i64 0, .int .i64 0])), none, (some 7), true⟩, ⟨.upd 3 0 (.loc 5) (.loc 4), none, (some 7), true⟩])
 ((.seq ((.seq (.ops [⟨.field 0 none (.var 7), none, none, true⟩, ⟨.field 0 none (.var 7), none, none, true⟩, ⟨.bin .lss .no (.loc 1) (.k (.int .i64 0)), none, none, true⟩, ⟨.move (.loc 2), none, none, true⟩, ⟨.field 0 none (.var 7), none, none, true⟩, ⟨.field 0 none (.var 7), none, none, true⟩, ⟨.bin .gtr .no (.loc 5) (.k (.int .i64 6)), none, none, true⟩, ⟨.pick (.loc 3) (.k (.bool true)) (.loc 6), none, none, true⟩, ⟨.move (.loc 7), none, none, true⟩, ⟨.field 0 none (.var 7), none, none, true⟩, ⟨.field 1 none (.var 7), none, none, true⟩, ⟨.bin .lss .no (.loc 10) (.k (.int .i64 0)), none, none, true⟩, ⟨.pick (.loc 8) (.k (.bool true)) (.loc 11), none, none, true⟩, ⟨.move (.loc 12), none, none, true⟩, ⟨.field 0 none (.var 7), none, none, true⟩, ⟨.field 2 none (.var 7), none, none, true⟩, ⟨.bin .gtr .no (.loc 15) (.k (.int .i64 1440)), none, none, true⟩, ⟨.pick (.loc 13) (.k (.bool true)) (.loc 16), none, none, true⟩, ⟨.move (.loc 17), none, none, true⟩, ⟨.field 0 none (.var 7), none, none, true⟩, ⟨.field 1 none (.var 7), none, none, true⟩, ⟨.field 0 none (.var 7), none, none, true⟩, ⟨.field 2 none (.var 7), none, none, true⟩, ⟨.bin .geq .no (.loc 20) (.loc 22), none, none, true⟩, ⟨.pick (.loc 18) (.k (.bool true)) (.loc 23), none, (some 8), true⟩])
 (.cond (.var 8) ((.seq (.ops [⟨.move (.var 5), none, none, true⟩, ⟨.callS nFFault [(.k (.int .i64 3)), (.loc 0)], none, none, true⟩, ⟨.upd 2 0 (.var 1) (.loc 1), none, (some 1), true⟩])
 (.ret))) (.skip))))
 ((.seq (.ops [⟨.move (.var 5), none, none, true⟩, ⟨.bin .gtr .no (.loc 0) (.k (.int .i64 0)), none, (some 9), true⟩])
 (.cond (.var 9) ((.seq (.ops [⟨.field 0 none (.var 2), none, none, true⟩, ⟨.field 0 none (.var 2), none, none, true⟩, ⟨.move (.var 5), none, none, true⟩, ⟨.bin .sub .no (.loc 2) (.k (.int .i64 1)), none, none, true⟩, ⟨.indexAddr 3 (.loc 1) (.loc 3), none, none, true⟩, ⟨.load (some 3) (.loc 4), none, none, true⟩, ⟨.tomb 1 (.k (.agg [.int .i64 0, .int .i64 0, .int .i64 0])), none, (some 10), true⟩, ⟨.upd 3 0 (.loc 6) (.loc 5), none, (some 10), true⟩])
 ((.seq (.ops [⟨.field 0 none (.var 7), none, none, true⟩, ⟨.field 0 none (.var 7), none, none, true⟩, ⟨.field 0 none (.var 10), none, none, true⟩, ⟨.field 0 none (.var 10), none, none, true⟩, ⟨.bin .lss .no (.loc 1) (.loc 3), none, none, true⟩, ⟨.move (.loc 4), none, none, true⟩, ⟨.field 0 none (.var 7), none, none, true⟩, ⟨.field 0 none (.var 7), none, none, true⟩, ⟨.field 0 none (.var 10), none, none, true⟩, ⟨.field 0 none (.var 10), none, none, true⟩, ⟨.bin .eql .no (.loc 7) (.loc 9), none, none, true⟩, ⟨.move (.loc 10), none, none, true⟩, ⟨.field 0 none (.var 7), none, none, true⟩, ⟨.field 1 none (.var 7), none, none, true⟩, ⟨.field 0 none (.var 10), none, none, true⟩, ⟨.field 2 none (.var 10), none, none, true⟩, ⟨.bin .lss .no (.loc 13) (.loc 15), none, none, true⟩, ⟨.pick (.loc 11) (.loc 16) (.k (.bool false)), none, none, true⟩, ⟨.pick (.loc 5) (.k (.bool true)) (.loc 17), none, (some 11), true⟩])
 (.cond (.var 11) ((.seq (.ops [⟨.move (.var 5), none, none, true⟩, ⟨.callS nFFault [(.k (.int .i64 5)), (.loc 0)], none, none, true⟩, ⟨.upd 2 0 (.var 1) (.loc 1), none, (some 1), true⟩])
 (.ret))) (.skip)))))) (.skip)))))))))
 (.ops [⟨.move (.var 5), none, none, true⟩, ⟨.bin .add .no (.loc 0) (.k (.int .i64 1)), none, none, true⟩, ⟨.move (.loc 1), none, (some 5), true⟩])))))))))
 ((.seq ((.seq (.ops [⟨.move (.k (.int .i64 0)), none, (some 12), true⟩])
 (.block 2 (.loop ((.seq ((.seq (.ops [⟨.move (.var 12), none, none, true⟩, ⟨.field 0 none (.var 2), none, none, true⟩, ⟨.field 1 none (.var 2), none, none, true⟩, ⟨.len (.loc 2), none, none, true⟩, ⟨.bin .lss .no (.loc 0) (.loc 3), none, (some 13), true⟩])
 (.cond (.var 13) (.skip) (.exit 2))))
 ((.seq (.block 3 ((.seq ((.seq (.ops [⟨.field 0 none (.var 2), none, none, true⟩, ⟨.field 1 none (.var 2), none, none, true⟩, ⟨.move (.var 12), none, none, true⟩, ⟨.indexAddr 1 (.loc 1) (.loc 2), none, none, true⟩, ⟨.load none (.loc 3), none, none, true⟩, ⟨.bin .lss .no (.loc 4) (.k (.int .i64 0)), none, none, true⟩, ⟨.move (.loc 5), none, none, true⟩, ⟨.field 0 none (.var 2), none, none, true⟩, ⟨.field 1 none (.var 2), none, none, true⟩, ⟨.move (.var 12), none, none, true⟩, ⟨.indexAddr 1 (.loc 8) (.loc 9), (some (6, false)), none, true⟩, ⟨.load none (.loc 10), (some (6, false)), none, true⟩, ⟨.bin .gtr .no (.loc 11) (.k (.int .i64 6944)), (some (6, false)), none, true⟩, ⟨.pick (.loc 6) (.k (.bool true)) (.loc 12), none, (some 14), true⟩])
 (.cond (.var 14) ((.seq (.ops [⟨.move (.var 12), none, none, true⟩, ⟨.bin .sub .no (.k (.int .i64 (-3))) (.loc 0), none, none, true⟩, ⟨.callS nFFault [(.k (.int .i64 3)), (.loc 1)], none, none, true⟩, ⟨.upd 2 0 (.var 1) (.loc 2), none, (some 1), true⟩])
 (.ret))) (.skip))))
 ((.seq (.ops [⟨.move (.var 12), none, none, true⟩, ⟨.bin .gtr .no (.loc 0) (.k (.int .i64 0)), none, none, true⟩, ⟨.move (.loc 1), none, none, true⟩, ⟨.field 0 none (.var 2), none, none, false⟩, ⟨.field 1 none (.var 2), none, none, false⟩, ⟨.move (.var 12), none, none, false⟩, ⟨.indexAddr 1 (.loc 4) (.loc 5), (some (2, true)), none, false⟩, ⟨.load none (.loc 6), (some (2, true)), none, false⟩, ⟨.field 0 none (.var 2), none, none, false⟩, ⟨.field 1 none (.var 2), none, none, false⟩, ⟨.move (.var 12), none, none, false⟩, ⟨.bin .sub .no (.loc 10) (.k (.int .i64 1)), none, none, false⟩, ⟨.indexAddr 1 (.loc 9) (.loc 11), (some (2, true)), none, false⟩, ⟨.load none (.loc 12), (some (2, true)), none, false⟩, ⟨.bin .leq .no (.loc 7) (.loc 13), (some (2, true)), none, true⟩, ⟨.pick (.loc 2) (.loc 14) (.k (.bool false)), none, (some 15), true⟩])
 (.cond (.var 15) ((.seq (.ops [⟨.move (.var 12), none, none, true⟩, ⟨.bin .sub .no (.k (.int .i64 (-3))) (.loc 0), none, none, true⟩, ⟨.callS nFFault [(.k (.int .i64 5)), (.loc 1)], none, none, true⟩, ⟨.upd 2 0 (.var 1) (.loc 2), none, (some 1), true⟩])
 (.ret))) (.skip)))))))
 (.ops [⟨.move (.var 12), none, none, true⟩, ⟨.bin .add .no (.loc 0) (.k (.int .i64 1)), none, none, true⟩, ⟨.move (.loc 1), none, (some 12), true⟩])))))))))
 ((.seq (.ops [⟨.callS nFFault [(.k (.int .i64 0)), (.k (.int .i64 0))], none, none, true⟩, ⟨.upd 2 0 (.var 1) (.loc 0), none, (some 1), true⟩])
 (.ret)))))))))))))⟩
theorem v_FCalendarFault {F : Nat → Option RFunc} {me nFFault : Nat} (hF : F me = some (rf_FCalendarFault nFFault)) {fl : Nat} {H : Heap} {Q : AV → Heap → Prop} (c0 : AV) (c1 : AV)
  (h : ∀ (H2 : Heap), Dead1 H 1 H2 → ∀ (H3 : Heap), Dead1 H2 1 H3 → ∃ len4 : Nat, lenA c0 = some len4 ∧ (((len4 : Int) > 12) → Ret F fl nFFault [(.int .i64 2), (.int .i64 (-1))] H3 (fun v8 H7 => ∃ (r5 : Int) (r6 : Int), v8 = (.agg [(.int .i64 r5), (.int .i64 r6)]) ∧ Q (.agg [(.int .i64 r5), (.int .i64 r6)]) H7)) ∧ (¬((len4 : Int) > 12) → ∃ len9 : Nat, lenA c1 = some len9 ∧ (((len9 : Int) > 12) → Ret F fl nFFault [(.int .i64 2), (.int .i64 (-2))] H3 (fun v13 H12 => ∃ (r10 : Int) (r11 : Int), v13 = (.agg [(.int .i64 r10), (.int .i64 r11)]) ∧ Q (.agg [(.int .i64 r10), (.int .i64 r11)]) H12)) ∧ (¬((len9 : Int) > 12) → ∃ (J14 : Nat → Int → Int → Int → Heap → Prop) (k15 : Nat), J14 k15 0 0 0 H3 ∧ (∀ (m16 : Nat) (v17 : Int) (v18 : Int) (i19 : Int) (H26 : Heap), J14 m16 v17 v18 i19 H26 → ∃ len27 : Nat, lenA c0 = some len27 ∧ ((i19 < (len27 : Int)) → ∃ (e28 : Int) (e29 : Int) (e30 : Int), getA H26 3 (some 3) c0 i19 0 = some (.agg [(.int .i64 e28), (.int .i64 e29), (.int .i64 e30)]) ∧ ∀ (H32 : Heap), Dead1 H26 1 H32 → ((((((((((e28 < 0) ∨ (e28 > 6))) ∨ (e29 < 0))) ∨ (e30 > 1440))) ∨ (e29 ≥ e30))) → Ret F fl nFFault [(.int .i64 3), (.int .i64 i19)] H32 (fun v36 H35 => ∃ (r33 : Int) (r34 : Int), v36 = (.agg [(.int .i64 r33), (.int .i64 r34)]) ∧ Q (.agg [(.int .i64 r33), (.int .i64 r34)]) H35)) ∧ (¬(((((((((e28 < 0) ∨ (e28 > 6))) ∨ (e29 < 0))) ∨ (e30 > 1440))) ∨ (e29 ≥ e30))) → ((i19 > 0) → ∃ (e37 : Int) (e38 : Int) (e39 : Int), getA H32 3 (some 3) c0 (IntKind.wrap .i64 (i19 - 1)) 0 = some (.agg [(.int .i64 e37), (.int .i64 e38), (.int .i64 e39)]) ∧ ∀ (H41 : Heap), Dead1 H32 1 H41 → ((((e28 < e37) ∨ (((e28 = e37) ∧ (e29 < e39))))) → Ret F fl nFFault [(.int .i64 5), (.int .i64 i19)] H41 (fun v45 H44 => ∃ (r42 : Int) (r43 : Int), v45 = (.agg [(.int .i64 r42), (.int .i64 r43)]) ∧ Q (.agg [(.int .i64 r42), (.int .i64 r43)]) H44)) ∧ (¬(((e28 < e37) ∨ (((e28 = e37) ∧ (e29 < e39))))) → ∃ m46 : Nat, m46 < m16 ∧ J14 m46 v17 v18 (IntKind.wrap .i64 (i19 + 1)) H41)) ∧ (¬(i19 > 0) → ∃ m47 : Nat, m47 < m16 ∧ J14 m47 v17 v18 (IntKind.wrap .i64 (i19 + 1)) H32))) ∧ (¬(i19 < (len27 : Int)) → ∃ (J48 : Nat → Int → Int → Int → Heap → Prop) (k49 : Nat), J48 k49 v17 v18 0 H26 ∧ (∀ (m50 : Nat) (v51 : Int) (v52 : Int) (i53 : Int) (H57 : Heap), J48 m50 v51 v52 i53 H57 → ∃ len58 : Nat, lenA c1 = some len58 ∧ ((i53 < (len58 : Int)) → ∃ (e59 : Int), getA H57 1 none c1 i53 0 = some (.int .i64 e59) ∧ ((e59 < 0) → Ret F fl nFFault [(.int .i64 3), (.int .i64 (IntKind.wrap .i64 ((-3) - i53)))] H57 (fun v80 H79 => ∃ (r77 : Int) (r78 : Int), v80 = (.agg [(.int .i64 r77), (.int .i64 r78)]) ∧ Q (.agg [(.int .i64 r77), (.int .i64 r78)]) H79)) ∧ (¬(e59 < 0) → ∃ (e61 : Int), getA H57 1 none c1 i53 0 = some (.int .i64 e61) ∧ ((e61 > 6944) → Ret F fl nFFault [(.int .i64 3), (.int .i64 (IntKind.wrap .i64 ((-3) - i53)))] H57 (fun v66 H65 => ∃ (r63 : Int) (r64 : Int), v66 = (.agg [(.int .i64 r63), (.int .i64 r64)]) ∧ Q (.agg [(.int .i64 r63), (.int .i64 r64)]) H65)) ∧ (¬(e61 > 6944) → ((i53 > 0) → ∃ (e67 : Int), getA H57 1 none c1 i53 0 = some (.int .i64 e67) ∧ ∃ (e69 : Int), getA H57 1 none c1 (IntKind.wrap .i64 (i53 - 1)) 0 = some (.int .i64 e69) ∧ ((e67 ≤ e69) → Ret F fl nFFault [(.int .i64 5), (.int .i64 (IntKind.wrap .i64 ((-3) - i53)))] H57 (fun v74 H73 => ∃ (r71 : Int) (r72 : Int), v74 = (.agg [(.int .i64 r71), (.int .i64 r72)]) ∧ Q (.agg [(.int .i64 r71), (.int .i64 r72)]) H73)) ∧ (¬(e67 ≤ e69) → ∃ m75 : Nat, m75 < m50 ∧ J48 m75 v51 v52 (IntKind.wrap .i64 (i53 + 1)) H57)) ∧ (¬(i53 > 0) → ∃ m76 : Nat, m76 < m50 ∧ J48 m76 v51 v52 (IntKind.wrap .i64 (i53 + 1)) H57)))) ∧ (¬(i53 < (len58 : Int)) → Ret F fl nFFault [(.int .i64 0), (.int .i64 0)] H57 (fun v84 H83 => ∃ (r81 : Int) (r82 : Int), v84 = (.agg [(.int .i64 r81), (.int .i64 r82)]) ∧ Q (.agg [(.int .i64 r81), (.int .i64 r82)]) H83)))))))) : Ret F fl me [(.agg [c0, c1])] H Q := by
  refine ret_intro hF rfl ?_
  refine w_seq ?_
  refine w_run [1, 1] ?_
  obtain ⟨H2, hb⟩ : ∃ H', Dead1 H 1 H' := ⟨_, ⟨rfl⟩⟩
  replace h := h H2 hb
  refine t_tomb true 1 (.agg [c0, c1]) [c0, c1] H2 H (by kernel_rfl) rfl hb ?_
  obtain ⟨H3, hb⟩ : ∃ H', Dead1 H2 1 H' := ⟨_, ⟨rfl⟩⟩
  replace h := h H3 hb
  refine t_tomb true 1 (.agg [(.int .i64 0), (.int .i64 0)]) [(.int .i64 0), (.int .i64 0)] H3 H2 (by kernel_rfl) rfl hb ?_
  refine t_done [(.agg [c0, c1]), (.agg [(.int .i64 0), (.int .i64 0)]), (.agg [c0, c1]), .undef, .undef, .undef, .undef, .undef, .undef, .undef, .undef, .undef, .undef, .undef, .undef, .undef] H3 (by kernel_rfl) ?_
  refine then_norm ?_
  refine w_seq ?_
  refine w_seq ?_
  refine w_run [0, 0, 1, 0] ?_
  obtain ⟨len4, hl, h⟩ := h
  refine t_len true c0 len4 H3 (by kernel_rfl) hl ?_
  refine t_done [(.agg [c0, c1]), (.agg [(.int .i64 0), (.int .i64 0)]), (.agg [c0, c1]), (.bool (decide ((len4 : Int) > 12))), .undef, .undef, .undef, .undef, .undef, .undef, .undef, .undef, .undef, .undef, .undef, .undef] H3 (by kernel_rfl) ?_
  refine then_norm ?_
  refine w_cond (t := (decide ((len4 : Int) > 12))) rfl (fun hc => ?_) (fun hc => ?_)
  · replace h := h.1 (is_dec.t hc)
    refine w_seq ?_
    refine w_run [1, 1] ?_
    refine t_call true nFFault [(.int .i64 2), (.int .i64 (-1))] H3 (by kernel_rfl) h ?_
    clear h
    rintro _ H7 ⟨r5, r6, rfl, h⟩
    refine t_upd true 2 0 [(.int .i64 0), (.int .i64 0)] (.agg [(.int .i64 r5), (.int .i64 r6)]) [(.int .i64 r5), (.int .i64 r6)] [(.int .i64 r5), (.int .i64 r6)] H7 (by kernel_rfl) rfl (all_c rfl (all_c rfl all_n)) ⟨rfl, Nat.le_of_ble_eq_true (by kernel_rfl), rfl⟩ ?_
    refine t_done [(.agg [c0, c1]), (.agg [(.int .i64 r5), (.int .i64 r6)]), (.agg [c0, c1]), (.bool (decide ((len4 : Int) > 12))), .undef, .undef, .undef, .undef, .undef, .undef, .undef, .undef, .undef, .undef, .undef, .undef] H7 (by kernel_rfl) ?_
    refine then_norm ?_
    refine w_ret ?_
    refine then_ret ?_
    exact body_ret (vs := [(.agg [(.int .i64 r5), (.int .i64 r6)])]) _ (by kernel_rfl) rfl h
  · replace h := h.2 (is_dec.f hc)
    refine w_skip ?_
    refine then_norm ?_
    refine w_seq ?_
    refine w_seq ?_
    refine w_run [0, 0, 1, 0] ?_
    obtain ⟨len9, hl, h⟩ := h
    refine t_len true c1 len9 H3 (by kernel_rfl) hl ?_
    refine t_done [(.agg [c0, c1]), (.agg [(.int .i64 0), (.int .i64 0)]), (.agg [c0, c1]), (.bool (decide ((len4 : Int) > 12))), (.bool (decide ((len9 : Int) > 12))), .undef, .undef, .undef, .undef, .undef, .undef, .undef, .undef, .undef, .undef, .undef] H3 (by kernel_rfl) ?_
    refine then_norm ?_
    refine w_cond (t := (decide ((len9 : Int) > 12))) rfl (fun hc => ?_) (fun hc => ?_)
    · replace h := h.1 (is_dec.t hc)
      refine w_seq ?_
      refine w_run [1, 1] ?_
      refine t_call true nFFault [(.int .i64 2), (.int .i64 (-2))] H3 (by kernel_rfl) h ?_
      clear h
      rintro _ H12 ⟨r10, r11, rfl, h⟩
      refine t_upd true 2 0 [(.int .i64 0), (.int .i64 0)] (.agg [(.int .i64 r10), (.int .i64 r11)]) [(.int .i64 r10), (.int .i64 r11)] [(.int .i64 r10), (.int .i64 r11)] H12 (by kernel_rfl) rfl (all_c rfl (all_c rfl all_n)) ⟨rfl, Nat.le_of_ble_eq_true (by kernel_rfl), rfl⟩ ?_
      refine t_done [(.agg [c0, c1]), (.agg [(.int .i64 r10), (.int .i64 r11)]), (.agg [c0, c1]), (.bool (decide ((len4 : Int) > 12))), (.bool (decide ((len9 : Int) > 12))), .undef, .undef, .undef, .undef, .undef, .undef, .undef, .undef, .undef, .undef, .undef] H12 (by kernel_rfl) ?_
      refine then_norm ?_
      refine w_ret ?_
      refine then_ret ?_
      exact body_ret (vs := [(.agg [(.int .i64 r10), (.int .i64 r11)])]) _ (by kernel_rfl) rfl h
    · replace h := h.2 (is_dec.f hc)
      refine w_skip ?_
      refine then_norm ?_
      refine w_seq ?_
      refine w_seq ?_
      refine w_run [0] ?_
      refine t_done [(.agg [c0, c1]), (.agg [(.int .i64 0), (.int .i64 0)]), (.agg [c0, c1]), (.bool (decide ((len4 : Int) > 12))), (.bool (decide ((len9 : Int) > 12))), (.int .i64 0), .undef, .undef, .undef, .undef, .undef, .undef, .undef, .undef, .undef, .undef] H3 (by kernel_rfl) ?_
      refine then_norm ?_
      refine w_block ?_
      obtain ⟨J14, k15, h0, h⟩ := h
      refine w_loop (I := fun mI EI HI => ∃ (v17 : Int) (v18 : Int) (i19 : Int) (d20 : AV) (d21 : AV) (d22 : AV) (d23 : AV) (d24 : AV) (d25 : AV), EI = [(.agg [c0, c1]), (.agg [(.int .i64 v17), (.int .i64 v18)]), (.agg [c0, c1]), (.bool (decide ((len4 : Int) > 12))), (.bool (decide ((len9 : Int) > 12))), (.int .i64 i19), d20, d21, d22, d23, d24, d25, .undef, .undef, .undef, .undef] ∧ J14 mI v17 v18 i19 HI) ?_ k15 ⟨_, _, _, _, _, _, _, _, _, rfl, h0⟩
      clear h0
      rintro m16 EI H26 ⟨v17, v18, i19, d20, d21, d22, d23, d24, d25, rfl, hJ⟩
      replace h := h m16 v17 v18 i19 H26 hJ
      clear hJ
      refine w_seq ?_
      refine w_seq ?_
      refine w_run [0, 0, 0, 1, 0] ?_
      obtain ⟨len27, hl, h⟩ := h
      refine t_len true c0 len27 H26 (by kernel_rfl) hl ?_
      refine t_done [(.agg [c0, c1]), (.agg [(.int .i64 v17), (.int .i64 v18)]), (.agg [c0, c1]), (.bool (decide ((len4 : Int) > 12))), (.bool (decide ((len9 : Int) > 12))), (.int .i64 i19), (.bool (decide (i19 < (len27 : Int)))), d21, d22, d23, d24, d25, .undef, .undef, .undef, .undef] H26 (by kernel_rfl) ?_
      refine then_norm ?_
      refine w_cond (t := (decide (i19 < (len27 : Int)))) rfl (fun hc => ?_) (fun hc => ?_)
      · replace h := h.1 (is_dec.t hc)
        refine w_skip ?_
        refine then_norm ?_
        refine w_seq ?_
        refine w_block ?_
        refine w_seq ?_
        refine w_run [0, 0, 0, 1, 1, 1, 1] ?_
        obtain ⟨e28, e29, e30, hg31, h⟩ := h
        refine t_idxG true 3 c0 .i64 i19 H26 (by kernel_rfl) hg31 ?_
        refine t_loadG true (some 3) 3 c0 i19 0 (.agg [(.int .i64 e28), (.int .i64 e29), (.int .i64 e30)]) H26 (by kernel_rfl) hg31 ?_
        obtain ⟨H32, hb⟩ : ∃ H', Dead1 H26 1 H' := ⟨_, ⟨rfl⟩⟩
        replace h := h H32 hb
        refine t_tomb true 1 (.agg [(.int .i64 0), (.int .i64 0), (.int .i64 0)]) [(.int .i64 0), (.int .i64 0), (.int .i64 0)] H32 H26 (by kernel_rfl) rfl hb ?_
        refine t_upd true 3 0 [(.int .i64 0), (.int .i64 0), (.int .i64 0)] (.agg [(.int .i64 e28), (.int .i64 e29), (.int .i64 e30)]) [(.int .i64 e28), (.int .i64 e29), (.int .i64 e30)] [(.int .i64 e28), (.int .i64 e29), (.int .i64 e30)] H32 (by kernel_rfl) rfl (all_c rfl (all_c rfl (all_c rfl all_n))) ⟨rfl, Nat.le_of_ble_eq_true (by kernel_rfl), rfl⟩ ?_
        refine t_done [(.agg [c0, c1]), (.agg [(.int .i64 v17), (.int .i64 v18)]), (.agg [c0, c1]), (.bool (decide ((len4 : Int) > 12))), (.bool (decide ((len9 : Int) > 12))), (.int .i64 i19), (.bool (decide (i19 < (len27 : Int)))), (.agg [(.int .i64 e28), (.int .i64 e29), (.int .i64 e30)]), d22, d23, d24, d25, .undef, .undef, .undef, .undef] H32 (by kernel_rfl) ?_
        refine then_norm ?_
        refine w_seq ?_
        refine w_seq ?_
        refine w_run [0, 0, 0, 0, 0, 0, 0, 0, 0, 0, 0, 0, 0, 0, 0, 0, 0, 0, 0, 0, 0, 0, 0, 0, 0] ?_
        refine t_done [(.agg [c0, c1]), (.agg [(.int .i64 v17), (.int .i64 v18)]), (.agg [c0, c1]), (.bool (decide ((len4 : Int) > 12))), (.bool (decide ((len9 : Int) > 12))), (.int .i64 i19), (.bool (decide (i19 < (len27 : Int)))), (.agg [(.int .i64 e28), (.int .i64 e29), (.int .i64 e30)]), (.bool (((((decide (e28 < 0)) || (decide (e28 > 6))) || (decide (e29 < 0))) || (decide (e30 > 1440))) || (decide (e29 ≥ e30)))), d23, d24, d25, .undef, .undef, .undef, .undef] H32 (by kernel_rfl) ?_
        refine then_norm ?_
        refine w_cond (t := (((((decide (e28 < 0)) || (decide (e28 > 6))) || (decide (e29 < 0))) || (decide (e30 > 1440))) || (decide (e29 ≥ e30)))) rfl (fun hc => ?_) (fun hc => ?_)
        · replace h := h.1 ((is_or (is_or (is_or (is_or is_dec is_dec) is_dec) is_dec) is_dec).t hc)
          refine w_seq ?_
          refine w_run [0, 1, 1] ?_
          refine t_call true nFFault [(.int .i64 3), (.int .i64 i19)] H32 (by kernel_rfl) h ?_
          clear h
          rintro _ H35 ⟨r33, r34, rfl, h⟩
          refine t_upd true 2 0 [(.int .i64 v17), (.int .i64 v18)] (.agg [(.int .i64 r33), (.int .i64 r34)]) [(.int .i64 r33), (.int .i64 r34)] [(.int .i64 r33), (.int .i64 r34)] H35 (by kernel_rfl) rfl (all_c rfl (all_c rfl all_n)) ⟨rfl, Nat.le_of_ble_eq_true (by kernel_rfl), rfl⟩ ?_
          refine t_done [(.agg [c0, c1]), (.agg [(.int .i64 r33), (.int .i64 r34)]), (.agg [c0, c1]), (.bool (decide ((len4 : Int) > 12))), (.bool (decide ((len9 : Int) > 12))), (.int .i64 i19), (.bool (decide (i19 < (len27 : Int)))), (.agg [(.int .i64 e28), (.int .i64 e29), (.int .i64 e30)]), (.bool (((((decide (e28 < 0)) || (decide (e28 > 6))) || (decide (e29 < 0))) || (decide (e30 > 1440))) || (decide (e29 ≥ e30)))), d23, d24, d25, .undef, .undef, .undef, .undef] H35 (by kernel_rfl) ?_
          refine then_norm ?_
          refine w_ret ?_
          refine then_ret ?_
          refine block_ret ?_
          refine then_ret ?_
          refine loop_ret ?_
          refine block_ret ?_
          refine then_ret ?_
          exact body_ret (vs := [(.agg [(.int .i64 r33), (.int .i64 r34)])]) _ (by kernel_rfl) rfl h
        · replace h := h.2 ((is_or (is_or (is_or (is_or is_dec is_dec) is_dec) is_dec) is_dec).f hc)
          refine w_skip ?_
          refine then_norm ?_
          refine w_seq ?_
          refine w_run [0, 0] ?_
          refine t_done [(.agg [c0, c1]), (.agg [(.int .i64 v17), (.int .i64 v18)]), (.agg [c0, c1]), (.bool (decide ((len4 : Int) > 12))), (.bool (decide ((len9 : Int) > 12))), (.int .i64 i19), (.bool (decide (i19 < (len27 : Int)))), (.agg [(.int .i64 e28), (.int .i64 e29), (.int .i64 e30)]), (.bool (((((decide (e28 < 0)) || (decide (e28 > 6))) || (decide (e29 < 0))) || (decide (e30 > 1440))) || (decide (e29 ≥ e30)))), (.bool (decide (i19 > 0))), d24, d25, .undef, .undef, .undef, .undef] H32 (by kernel_rfl) ?_
          refine then_norm ?_
          refine w_cond (t := (decide (i19 > 0))) rfl (fun hc => ?_) (fun hc => ?_)
          · replace h := h.1 (is_dec.t hc)
            refine w_seq ?_
            refine w_run [0, 0, 0, 0, 1, 1, 1, 1] ?_
            obtain ⟨e37, e38, e39, hg40, h⟩ := h
            refine t_idxG true 3 c0 .i64 (IntKind.wrap .i64 (i19 - 1)) H32 (by kernel_rfl) hg40 ?_
            refine t_loadG true (some 3) 3 c0 (IntKind.wrap .i64 (i19 - 1)) 0 (.agg [(.int .i64 e37), (.int .i64 e38), (.int .i64 e39)]) H32 (by kernel_rfl) hg40 ?_
            obtain ⟨H41, hb⟩ : ∃ H', Dead1 H32 1 H' := ⟨_, ⟨rfl⟩⟩
            replace h := h H41 hb
            refine t_tomb true 1 (.agg [(.int .i64 0), (.int .i64 0), (.int .i64 0)]) [(.int .i64 0), (.int .i64 0), (.int .i64 0)] H41 H32 (by kernel_rfl) rfl hb ?_
            refine t_upd true 3 0 [(.int .i64 0), (.int .i64 0), (.int .i64 0)] (.agg [(.int .i64 e37), (.int .i64 e38), (.int .i64 e39)]) [(.int .i64 e37), (.int .i64 e38), (.int .i64 e39)] [(.int .i64 e37), (.int .i64 e38), (.int .i64 e39)] H41 (by kernel_rfl) rfl (all_c rfl (all_c rfl (all_c rfl all_n))) ⟨rfl, Nat.le_of_ble_eq_true (by kernel_rfl), rfl⟩ ?_
            refine t_done [(.agg [c0, c1]), (.agg [(.int .i64 v17), (.int .i64 v18)]), (.agg [c0, c1]), (.bool (decide ((len4 : Int) > 12))), (.bool (decide ((len9 : Int) > 12))), (.int .i64 i19), (.bool (decide (i19 < (len27 : Int)))), (.agg [(.int .i64 e28), (.int .i64 e29), (.int .i64 e30)]), (.bool (((((decide (e28 < 0)) || (decide (e28 > 6))) || (decide (e29 < 0))) || (decide (e30 > 1440))) || (decide (e29 ≥ e30)))), (.bool (decide (i19 > 0))), (.agg [(.int .i64 e37), (.int .i64 e38), (.int .i64 e39)]), d25, .undef, .undef, .undef, .undef] H41 (by kernel_rfl) ?_
            refine then_norm ?_
            refine w_seq ?_
            refine w_run [0, 0, 0, 0, 0, 0, 0, 0, 0, 0, 0, 0, 0, 0, 0, 0, 0, 0, 0] ?_
            refine t_done [(.agg [c0, c1]), (.agg [(.int .i64 v17), (.int .i64 v18)]), (.agg [c0, c1]), (.bool (decide ((len4 : Int) > 12))), (.bool (decide ((len9 : Int) > 12))), (.int .i64 i19), (.bool (decide (i19 < (len27 : Int)))), (.agg [(.int .i64 e28), (.int .i64 e29), (.int .i64 e30)]), (.bool (((((decide (e28 < 0)) || (decide (e28 > 6))) || (decide (e29 < 0))) || (decide (e30 > 1440))) || (decide (e29 ≥ e30)))), (.bool (decide (i19 > 0))), (.agg [(.int .i64 e37), (.int .i64 e38), (.int .i64 e39)]), (.bool ((decide (e28 < e37)) || (((e28) == e37) && (decide (e29 < e39))))), .undef, .undef, .undef, .undef] H41 (by kernel_rfl) ?_
            refine then_norm ?_
            refine w_cond (t := ((decide (e28 < e37)) || (((e28) == e37) && (decide (e29 < e39))))) rfl (fun hc => ?_) (fun hc => ?_)
            · replace h := h.1 ((is_or is_dec (is_and is_eq is_dec)).t hc)
              refine w_seq ?_
              refine w_run [0, 1, 1] ?_
              refine t_call true nFFault [(.int .i64 5), (.int .i64 i19)] H41 (by kernel_rfl) h ?_
              clear h
              rintro _ H44 ⟨r42, r43, rfl, h⟩
              refine t_upd true 2 0 [(.int .i64 v17), (.int .i64 v18)] (.agg [(.int .i64 r42), (.int .i64 r43)]) [(.int .i64 r42), (.int .i64 r43)] [(.int .i64 r42), (.int .i64 r43)] H44 (by kernel_rfl) rfl (all_c rfl (all_c rfl all_n)) ⟨rfl, Nat.le_of_ble_eq_true (by kernel_rfl), rfl⟩ ?_
              refine t_done [(.agg [c0, c1]), (.agg [(.int .i64 r42), (.int .i64 r43)]), (.agg [c0, c1]), (.bool (decide ((len4 : Int) > 12))), (.bool (decide ((len9 : Int) > 12))), (.int .i64 i19), (.bool (decide (i19 < (len27 : Int)))), (.agg [(.int .i64 e28), (.int .i64 e29), (.int .i64 e30)]), (.bool (((((decide (e28 < 0)) || (decide (e28 > 6))) || (decide (e29 < 0))) || (decide (e30 > 1440))) || (decide (e29 ≥ e30)))), (.bool (decide (i19 > 0))), (.agg [(.int .i64 e37), (.int .i64 e38), (.int .i64 e39)]), (.bool ((decide (e28 < e37)) || (((e28) == e37) && (decide (e29 < e39))))), .undef, .undef, .undef, .undef] H44 (by kernel_rfl) ?_
              refine then_norm ?_
              refine w_ret ?_
              refine block_ret ?_
              refine then_ret ?_
              refine loop_ret ?_
              refine block_ret ?_
              refine then_ret ?_
              exact body_ret (vs := [(.agg [(.int .i64 r42), (.int .i64 r43)])]) _ (by kernel_rfl) rfl h
            · replace h := h.2 ((is_or is_dec (is_and is_eq is_dec)).f hc)
              refine w_skip ?_
              refine block_norm ?_
              refine then_norm ?_
              refine w_run [0, 0, 0] ?_
              refine t_done [(.agg [c0, c1]), (.agg [(.int .i64 v17), (.int .i64 v18)]), (.agg [c0, c1]), (.bool (decide ((len4 : Int) > 12))), (.bool (decide ((len9 : Int) > 12))), (.int .i64 (IntKind.wrap .i64 (i19 + 1))), (.bool (decide (i19 < (len27 : Int)))), (.agg [(.int .i64 e28), (.int .i64 e29), (.int .i64 e30)]), (.bool (((((decide (e28 < 0)) || (decide (e28 > 6))) || (decide (e29 < 0))) || (decide (e30 > 1440))) || (decide (e29 ≥ e30)))), (.bool (decide (i19 > 0))), (.agg [(.int .i64 e37), (.int .i64 e38), (.int .i64 e39)]), (.bool ((decide (e28 < e37)) || (((e28) == e37) && (decide (e29 < e39))))), .undef, .undef, .undef, .undef] H41 (by kernel_rfl) ?_
              obtain ⟨m', hm, h⟩ := h
              refine loop_norm ⟨m', hm, _, _, _, _, _, _, _, _, _, rfl, h⟩
          · replace h := h.2 (is_dec.f hc)
            refine w_skip ?_
            refine block_norm ?_
            refine then_norm ?_
            refine w_run [0, 0, 0] ?_
            refine t_done [(.agg [c0, c1]), (.agg [(.int .i64 v17), (.int .i64 v18)]), (.agg [c0, c1]), (.bool (decide ((len4 : Int) > 12))), (.bool (decide ((len9 : Int) > 12))), (.int .i64 (IntKind.wrap .i64 (i19 + 1))), (.bool (decide (i19 < (len27 : Int)))), (.agg [(.int .i64 e28), (.int .i64 e29), (.int .i64 e30)]), (.bool (((((decide (e28 < 0)) || (decide (e28 > 6))) || (decide (e29 < 0))) || (decide (e30 > 1440))) || (decide (e29 ≥ e30)))), (.bool (decide (i19 > 0))), d24, d25, .undef, .undef, .undef, .undef] H32 (by kernel_rfl) ?_
            obtain ⟨m', hm, h⟩ := h
            refine loop_norm ⟨m', hm, _, _, _, _, _, _, _, _, _, rfl, h⟩
      · replace h := h.2 (is_dec.f hc)
        refine w_exit ?_
        refine then_exit ?_
        refine loop_exit ?_
        refine block_exit ?_
        refine then_norm ?_
        refine w_seq ?_
        refine w_seq ?_
        refine w_run [0] ?_
        refine t_done [(.agg [c0, c1]), (.agg [(.int .i64 v17), (.int .i64 v18)]), (.agg [c0, c1]), (.bool (decide ((len4 : Int) > 12))), (.bool (decide ((len9 : Int) > 12))), (.int .i64 i19), (.bool (decide (i19 < (len27 : Int)))), d21, d22, d23, d24, d25, (.int .i64 0), .undef, .undef, .undef] H26 (by kernel_rfl) ?_
        refine then_norm ?_
        refine w_block ?_
        obtain ⟨J48, k49, h0, h⟩ := h
        refine w_loop (I := fun mI EI HI => ∃ (v51 : Int) (v52 : Int) (i53 : Int) (d54 : AV) (d55 : AV) (d56 : AV), EI = [(.agg [c0, c1]), (.agg [(.int .i64 v51), (.int .i64 v52)]), (.agg [c0, c1]), (.bool (decide ((len4 : Int) > 12))), (.bool (decide ((len9 : Int) > 12))), (.int .i64 i19), (.bool (decide (i19 < (len27 : Int)))), d21, d22, d23, d24, d25, (.int .i64 i53), d54, d55, d56] ∧ J48 mI v51 v52 i53 HI) ?_ k49 ⟨_, _, _, _, _, _, rfl, h0⟩
        clear h0
        rintro m50 EI H57 ⟨v51, v52, i53, d54, d55, d56, rfl, hJ⟩
        replace h := h m50 v51 v52 i53 H57 hJ
        clear hJ
        refine w_seq ?_
        refine w_seq ?_
        refine w_run [0, 0, 0, 1, 0] ?_
        obtain ⟨len58, hl, h⟩ := h
        refine t_len true c1 len58 H57 (by kernel_rfl) hl ?_
        refine t_done [(.agg [c0, c1]), (.agg [(.int .i64 v51), (.int .i64 v52)]), (.agg [c0, c1]), (.bool (decide ((len4 : Int) > 12))), (.bool (decide ((len9 : Int) > 12))), (.int .i64 i19), (.bool (decide (i19 < (len27 : Int)))), d21, d22, d23, d24, d25, (.int .i64 i53), (.bool (decide (i53 < (len58 : Int)))), d55, d56] H57 (by kernel_rfl) ?_
        refine then_norm ?_
        refine w_cond (t := (decide (i53 < (len58 : Int)))) rfl (fun hc => ?_) (fun hc => ?_)
        · replace h := h.1 (is_dec.t hc)
          refine w_skip ?_
          refine then_norm ?_
          refine w_seq ?_
          refine w_block ?_
          refine w_seq ?_
          refine w_seq ?_
          refine w_run [0, 0, 0, 1, 1, 0, 0, 0, 0, 0, 3, 3, 2, 0] ?_
          obtain ⟨e59, hg60, h⟩ := h
          refine t_idxG true 1 c1 .i64 i53 H57 (by kernel_rfl) hg60 ?_
          refine t_loadG true none 1 c1 i53 0 (.int .i64 e59) H57 (by kernel_rfl) hg60 ?_
          refine t_gd (decide (e59 < 0)) false (by kernel_rfl) (fun hc => ?_) (fun hc => ?_)
          · replace h := h.2 (is_dec.f hc)
            obtain ⟨e61, hg62, h⟩ := h
            refine t_idxG true 1 c1 .i64 i53 H57 (by kernel_rfl) hg62 ?_
            refine t_gd false false (by kernel_rfl) (fun _ => ?_) (fun hn => by cases hn)
            refine t_loadG true none 1 c1 i53 0 (.int .i64 e61) H57 (by kernel_rfl) hg62 ?_
            refine t_gd false false (by kernel_rfl) (fun _ => ?_) (fun hn => by cases hn)
            refine t_done [(.agg [c0, c1]), (.agg [(.int .i64 v51), (.int .i64 v52)]), (.agg [c0, c1]), (.bool (decide ((len4 : Int) > 12))), (.bool (decide ((len9 : Int) > 12))), (.int .i64 i19), (.bool (decide (i19 < (len27 : Int)))), d21, d22, d23, d24, d25, (.int .i64 i53), (.bool (decide (i53 < (len58 : Int)))), (.bool (decide (e61 > 6944))), d56] H57 (by kernel_rfl) ?_
            refine then_norm ?_
            refine w_cond (t := (decide (e61 > 6944))) rfl (fun hc => ?_) (fun hc => ?_)
            · replace h := h.1 (is_dec.t hc)
              refine w_seq ?_
              refine w_run [0, 0, 1, 1] ?_
              refine t_call true nFFault [(.int .i64 3), (.int .i64 (IntKind.wrap .i64 ((-3) - i53)))] H57 (by kernel_rfl) h ?_
              clear h
              rintro _ H65 ⟨r63, r64, rfl, h⟩
              refine t_upd true 2 0 [(.int .i64 v51), (.int .i64 v52)] (.agg [(.int .i64 r63), (.int .i64 r64)]) [(.int .i64 r63), (.int .i64 r64)] [(.int .i64 r63), (.int .i64 r64)] H65 (by kernel_rfl) rfl (all_c rfl (all_c rfl all_n)) ⟨rfl, Nat.le_of_ble_eq_true (by kernel_rfl), rfl⟩ ?_
              refine t_done [(.agg [c0, c1]), (.agg [(.int .i64 r63), (.int .i64 r64)]), (.agg [c0, c1]), (.bool (decide ((len4 : Int) > 12))), (.bool (decide ((len9 : Int) > 12))), (.int .i64 i19), (.bool (decide (i19 < (len27 : Int)))), d21, d22, d23, d24, d25, (.int .i64 i53), (.bool (decide (i53 < (len58 : Int)))), (.bool (decide (e61 > 6944))), d56] H65 (by kernel_rfl) ?_
              refine then_norm ?_
              refine w_ret ?_
              refine then_ret ?_
              refine block_ret ?_
              refine then_ret ?_
              refine loop_ret ?_
              refine block_ret ?_
              refine then_ret ?_
              exact body_ret (vs := [(.agg [(.int .i64 r63), (.int .i64 r64)])]) _ (by kernel_rfl) rfl h
            · replace h := h.2 (is_dec.f hc)
              refine w_skip ?_
              refine then_norm ?_
              refine w_seq ?_
              refine w_run [0, 0, 0, 0, 0, 0, 3, 3, 0, 0, 0, 0, 3, 3, 2, 0] ?_
              refine t_gd (decide (i53 > 0)) true (by kernel_rfl) (fun hc => ?_) (fun hc => ?_)
              · replace h := h.1 (is_dec.t hc)
                obtain ⟨e67, hg68, h⟩ := h
                refine t_idxG false 1 c1 .i64 i53 H57 (by kernel_rfl) hg68 ?_
                refine t_gd true true (by kernel_rfl) (fun _ => ?_) (fun hn => by cases hn)
                refine t_loadG false none 1 c1 i53 0 (.int .i64 e67) H57 (by kernel_rfl) hg68 ?_
                refine t_gd true true (by kernel_rfl) (fun _ => ?_) (fun hn => by cases hn)
                obtain ⟨e69, hg70, h⟩ := h
                refine t_idxG false 1 c1 .i64 (IntKind.wrap .i64 (i53 - 1)) H57 (by kernel_rfl) hg70 ?_
                refine t_gd true true (by kernel_rfl) (fun _ => ?_) (fun hn => by cases hn)
                refine t_loadG false none 1 c1 (IntKind.wrap .i64 (i53 - 1)) 0 (.int .i64 e69) H57 (by kernel_rfl) hg70 ?_
                refine t_gd true true (by kernel_rfl) (fun _ => ?_) (fun hn => by cases hn)
                refine t_done [(.agg [c0, c1]), (.agg [(.int .i64 v51), (.int .i64 v52)]), (.agg [c0, c1]), (.bool (decide ((len4 : Int) > 12))), (.bool (decide ((len9 : Int) > 12))), (.int .i64 i19), (.bool (decide (i19 < (len27 : Int)))), d21, d22, d23, d24, d25, (.int .i64 i53), (.bool (decide (i53 < (len58 : Int)))), (.bool (decide (e61 > 6944))), (.bool (decide (e67 ≤ e69)))] H57 (by kernel_rfl) ?_
                refine then_norm ?_
                refine w_cond (t := (decide (e67 ≤ e69))) rfl (fun hc => ?_) (fun hc => ?_)
                · replace h := h.1 (is_dec.t hc)
                  refine w_seq ?_
                  refine w_run [0, 0, 1, 1] ?_
                  refine t_call true nFFault [(.int .i64 5), (.int .i64 (IntKind.wrap .i64 ((-3) - i53)))] H57 (by kernel_rfl) h ?_
                  clear h
                  rintro _ H73 ⟨r71, r72, rfl, h⟩
                  refine t_upd true 2 0 [(.int .i64 v51), (.int .i64 v52)] (.agg [(.int .i64 r71), (.int .i64 r72)]) [(.int .i64 r71), (.int .i64 r72)] [(.int .i64 r71), (.int .i64 r72)] H73 (by kernel_rfl) rfl (all_c rfl (all_c rfl all_n)) ⟨rfl, Nat.le_of_ble_eq_true (by kernel_rfl), rfl⟩ ?_
                  refine t_done [(.agg [c0, c1]), (.agg [(.int .i64 r71), (.int .i64 r72)]), (.agg [c0, c1]), (.bool (decide ((len4 : Int) > 12))), (.bool (decide ((len9 : Int) > 12))), (.int .i64 i19), (.bool (decide (i19 < (len27 : Int)))), d21, d22, d23, d24, d25, (.int .i64 i53), (.bool (decide (i53 < (len58 : Int)))), (.bool (decide (e61 > 6944))), (.bool (decide (e67 ≤ e69)))] H73 (by kernel_rfl) ?_
                  refine then_norm ?_
                  refine w_ret ?_
                  refine block_ret ?_
                  refine then_ret ?_
                  refine loop_ret ?_
                  refine block_ret ?_
                  refine then_ret ?_
                  exact body_ret (vs := [(.agg [(.int .i64 r71), (.int .i64 r72)])]) _ (by kernel_rfl) rfl h
                · replace h := h.2 (is_dec.f hc)
                  refine w_skip ?_
                  refine block_norm ?_
                  refine then_norm ?_
                  refine w_run [0, 0, 0] ?_
                  refine t_done [(.agg [c0, c1]), (.agg [(.int .i64 v51), (.int .i64 v52)]), (.agg [c0, c1]), (.bool (decide ((len4 : Int) > 12))), (.bool (decide ((len9 : Int) > 12))), (.int .i64 i19), (.bool (decide (i19 < (len27 : Int)))), d21, d22, d23, d24, d25, (.int .i64 (IntKind.wrap .i64 (i53 + 1))), (.bool (decide (i53 < (len58 : Int)))), (.bool (decide (e61 > 6944))), (.bool (decide (e67 ≤ e69)))] H57 (by kernel_rfl) ?_
                  obtain ⟨m', hm, h⟩ := h
                  refine loop_norm ⟨m', hm, _, _, _, _, _, _, rfl, h⟩
              · replace h := h.2 (is_dec.f hc)
                refine t_gd false true (by kernel_rfl) (fun hn => by cases hn) (fun _ => ?_)
                refine t_gd false true (by kernel_rfl) (fun hn => by cases hn) (fun _ => ?_)
                refine t_gd false true (by kernel_rfl) (fun hn => by cases hn) (fun _ => ?_)
                refine t_gd false true (by kernel_rfl) (fun hn => by cases hn) (fun _ => ?_)
                refine t_done [(.agg [c0, c1]), (.agg [(.int .i64 v51), (.int .i64 v52)]), (.agg [c0, c1]), (.bool (decide ((len4 : Int) > 12))), (.bool (decide ((len9 : Int) > 12))), (.int .i64 i19), (.bool (decide (i19 < (len27 : Int)))), d21, d22, d23, d24, d25, (.int .i64 i53), (.bool (decide (i53 < (len58 : Int)))), (.bool (decide (e61 > 6944))), (.bool false)] H57 (by kernel_rfl) ?_
                refine then_norm ?_
                refine w_cond (t := false) rfl (fun hc => by cases hc) (fun _ => ?_)
                refine w_skip ?_
                refine block_norm ?_
                refine then_norm ?_
                refine w_run [0, 0, 0] ?_
                refine t_done [(.agg [c0, c1]), (.agg [(.int .i64 v51), (.int .i64 v52)]), (.agg [c0, c1]), (.bool (decide ((len4 : Int) > 12))), (.bool (decide ((len9 : Int) > 12))), (.int .i64 i19), (.bool (decide (i19 < (len27 : Int)))), d21, d22, d23, d24, d25, (.int .i64 (IntKind.wrap .i64 (i53 + 1))), (.bool (decide (i53 < (len58 : Int)))), (.bool (decide (e61 > 6944))), (.bool false)] H57 (by kernel_rfl) ?_
                obtain ⟨m', hm, h⟩ := h
                refine loop_norm ⟨m', hm, _, _, _, _, _, _, rfl, h⟩
          · replace h := h.1 (is_dec.t hc)
            refine t_gd true false (by kernel_rfl) (fun hn => by cases hn) (fun _ => ?_)
            refine t_gd true false (by kernel_rfl) (fun hn => by cases hn) (fun _ => ?_)
            refine t_done [(.agg [c0, c1]), (.agg [(.int .i64 v51), (.int .i64 v52)]), (.agg [c0, c1]), (.bool (decide ((len4 : Int) > 12))), (.bool (decide ((len9 : Int) > 12))), (.int .i64 i19), (.bool (decide (i19 < (len27 : Int)))), d21, d22, d23, d24, d25, (.int .i64 i53), (.bool (decide (i53 < (len58 : Int)))), (.bool true), d56] H57 (by kernel_rfl) ?_
            refine then_norm ?_
            refine w_cond (t := true) rfl (fun _ => ?_) (fun hc => by cases hc)
            refine w_seq ?_
            refine w_run [0, 0, 1, 1] ?_
            refine t_call true nFFault [(.int .i64 3), (.int .i64 (IntKind.wrap .i64 ((-3) - i53)))] H57 (by kernel_rfl) h ?_
            clear h
            rintro _ H79 ⟨r77, r78, rfl, h⟩
            refine t_upd true 2 0 [(.int .i64 v51), (.int .i64 v52)] (.agg [(.int .i64 r77), (.int .i64 r78)]) [(.int .i64 r77), (.int .i64 r78)] [(.int .i64 r77), (.int .i64 r78)] H79 (by kernel_rfl) rfl (all_c rfl (all_c rfl all_n)) ⟨rfl, Nat.le_of_ble_eq_true (by kernel_rfl), rfl⟩ ?_
            refine t_done [(.agg [c0, c1]), (.agg [(.int .i64 r77), (.int .i64 r78)]), (.agg [c0, c1]), (.bool (decide ((len4 : Int) > 12))), (.bool (decide ((len9 : Int) > 12))), (.int .i64 i19), (.bool (decide (i19 < (len27 : Int)))), d21, d22, d23, d24, d25, (.int .i64 i53), (.bool (decide (i53 < (len58 : Int)))), (.bool true), d56] H79 (by kernel_rfl) ?_
            refine then_norm ?_
            refine w_ret ?_
            refine then_ret ?_
            refine block_ret ?_
            refine then_ret ?_
            refine loop_ret ?_
            refine block_ret ?_
            refine then_ret ?_
            exact body_ret (vs := [(.agg [(.int .i64 r77), (.int .i64 r78)])]) _ (by kernel_rfl) rfl h
        · replace h := h.2 (is_dec.f hc)
          refine w_exit ?_
          refine then_exit ?_
          refine loop_exit ?_
          refine block_exit ?_
          refine then_norm ?_
          refine w_seq ?_
          refine w_run [1, 1] ?_
          refine t_call true nFFault [(.int .i64 0), (.int .i64 0)] H57 (by kernel_rfl) h ?_
          clear h
          rintro _ H83 ⟨r81, r82, rfl, h⟩
          refine t_upd true 2 0 [(.int .i64 v51), (.int .i64 v52)] (.agg [(.int .i64 r81), (.int .i64 r82)]) [(.int .i64 r81), (.int .i64 r82)] [(.int .i64 r81), (.int .i64 r82)] H83 (by kernel_rfl) rfl (all_c rfl (all_c rfl all_n)) ⟨rfl, Nat.le_of_ble_eq_true (by kernel_rfl), rfl⟩ ?_
          refine t_done [(.agg [c0, c1]), (.agg [(.int .i64 r81), (.int .i64 r82)]), (.agg [c0, c1]), (.bool (decide ((len4 : Int) > 12))), (.bool (decide ((len9 : Int) > 12))), (.int .i64 i19), (.bool (decide (i19 < (len27 : Int)))), d21, d22, d23, d24, d25, (.int .i64 i53), (.bool (decide (i53 < (len58 : Int)))), d55, d56] H83 (by kernel_rfl) ?_
          refine then_norm ?_
          refine w_ret ?_
          exact body_ret (vs := [(.agg [(.int .i64 r81), (.int .i64 r82)])]) _ (by kernel_rfl) rfl h

-- FIsOpen
def rf_FIsOpen (nFHas : Nat) : RFunc := ⟨2, 11, [.var 2],
 ((.seq (.ops [⟨.tomb 1 (.var 0), none, (some 4), true⟩, ⟨.move (.k (.bool false)), none, (some 2), true⟩])
 ((.seq (.ops [⟨.move (.var 1), none, none, true⟩, ⟨.bin .quo .no (.loc 0) (.k (.int .i64 1440)), none, none, true⟩, ⟨.move (.loc 1), none, (some 3), true⟩])
 ((.seq (.ops [⟨.move (.var 1), none, none, true⟩, ⟨.move (.var 3), none, none, true⟩, ⟨.bin .mul .no (.k (.int .i64 1440)) (.loc 1), none, none, true⟩, ⟨.bin .sub .no (.loc 0) (.loc 2), none, none, true⟩, ⟨.move (.loc 3), none, (some 9), true⟩])
 ((.seq ((.seq (.ops [⟨.field 0 none (.var 4), none, none, true⟩, ⟨.field 1 none (.var 4), none, none, true⟩, ⟨.move (.var 3), none, none, true⟩, ⟨.callS nFHas [(.loc 1), (.loc 2)], none, (some 5), true⟩])
 (.cond (.var 5) ((.seq (.ops [⟨.move (.k (.bool false)), none, (some 2), true⟩])
 (.ret))) (.skip))))
 ((.seq ((.seq (.ops [⟨.move (.k (.int .i64 0)), none, (some 6), true⟩])
 (.block 0 (.loop ((.seq ((.seq (.ops [⟨.move (.var 6), none, none, true⟩, ⟨.field 0 none (.var 4), none, none, true⟩, ⟨.field 0 none (.var 4), none, none, true⟩, ⟨.len (.loc 2), none, none, true⟩, ⟨.bin .lss .no (.loc 0) (.loc 3), none, (some 7), true⟩])
 (.cond (.var 7) (.skip) (.exit 0))))
 ((.seq (.block 1 ((.seq (.ops [⟨.field 0 none (.var 4), none, none, true⟩, ⟨.field 0 none (.var 4), none, none, true⟩, ⟨.move (.var 6), none, none, true⟩, ⟨.indexAddr 3 (.loc 1) (.loc 2), none, none, true⟩, ⟨.load (some 3) (.loc 3), none, none, true⟩, ⟨.tomb 1 (.k (.agg [.int .i64 0, .int .i64 0, .int .i64 0])), none, (some 8), true⟩, ⟨.upd 3 0 (.loc 5) (.loc 4), none, (some 8), true⟩])
 ((.seq (.ops [⟨.field 0 none (.var 8), none, none, true⟩, ⟨.field 0 none (.var 8), none, none, true⟩, ⟨.move (.var 3), none, none, true⟩, ⟨.bin .rem .no (.loc 2) (.k (.int .i64 7)), none, none, true⟩, ⟨.bin .eql .no (.loc 1) (.loc 3), none, none, true⟩, ⟨.move (.loc 4), none, none, true⟩, ⟨.field 0 none (.var 8), none, none, true⟩, ⟨.field 1 none (.var 8), none, none, true⟩, ⟨.move (.var 9), none, none, true⟩, ⟨.bin .leq .no (.loc 7) (.loc 8), none, none, true⟩, ⟨.pick (.loc 5) (.loc 9) (.k (.bool false)), none, none, true⟩, ⟨.move (.loc 10), none, none, true⟩, ⟨.move (.var 9), none, none, true⟩, ⟨.field 0 none (.var 8), none, none, true⟩, ⟨.field 2 none (.var 8), none, none, true⟩, ⟨.bin .lss .no (.loc 12) (.loc 14), none, none, true⟩, ⟨.pick (.loc 11) (.loc 15) (.k (.bool false)), none, (some 10), true⟩])
 (.cond (.var 10) ((.seq (.ops [⟨.move (.k (.bool true)), none, (some 2), true⟩])
 (.ret))) (.skip)))))))
 (.ops [⟨.move (.var 6), none, none, true⟩, ⟨.bin .add .no (.loc 0) (.k (.int .i64 1)), none, none, true⟩, ⟨.move (.loc 1), none, (some 6), true⟩])))))))))
 ((.seq (.ops [⟨.move (.k (.bool false)), none, (some 2), true⟩])
 (.ret)))))))))))))⟩
theorem v_FIsOpen {F : Nat → Option RFunc} {me nFHas : Nat} (hF : F me = some (rf_FIsOpen nFHas)) {fl : Nat} {H : Heap} {Q : AV → Heap → Prop} (c0 : AV) (c1 : AV) (time2 : Int)
  (h : ∀ (H3 : Heap), Dead1 H 1 H3 → Ret F fl nFHas [c1, (.int .i64 (IntKind.wrap .i64 (Int.tdiv time2 1440)))] H3 (fun v6 H5 => ∃ (r4 : Bool), v6 = (.bool r4) ∧ ((r4 = true) → Q (.bool false) H5) ∧ (¬(r4 = true) → ∃ (J7 : Nat → Int → Heap → Prop) (k8 : Nat), J7 k8 0 H5 ∧ (∀ (m9 : Nat) (i11 : Int) (H15 : Heap), J7 m9 i11 H15 → ∃ len16 : Nat, lenA c0 = some len16 ∧ ((i11 < (len16 : Int)) → ∃ (e17 : Int) (e18 : Int) (e19 : Int), getA H15 3 (some 3) c0 i11 0 = some (.agg [(.int .i64 e17), (.int .i64 e18), (.int .i64 e19)]) ∧ ∀ (H21 : Heap), Dead1 H15 1 H21 → ((((((e17 = (Int.tmod (IntKind.wrap .i64 (Int.tdiv time2 1440)) 7)) ∧ (e18 ≤ (IntKind.wrap .i64 (time2 - (IntKind.wrap .i64 (1440 * (IntKind.wrap .i64 (Int.tdiv time2 1440))))))))) ∧ ((IntKind.wrap .i64 (time2 - (IntKind.wrap .i64 (1440 * (IntKind.wrap .i64 (Int.tdiv time2 1440)))))) < e19))) → Q (.bool true) H21) ∧ (¬(((((e17 = (Int.tmod (IntKind.wrap .i64 (Int.tdiv time2 1440)) 7)) ∧ (e18 ≤ (IntKind.wrap .i64 (time2 - (IntKind.wrap .i64 (1440 * (IntKind.wrap .i64 (Int.tdiv time2 1440))))))))) ∧ ((IntKind.wrap .i64 (time2 - (IntKind.wrap .i64 (1440 * (IntKind.wrap .i64 (Int.tdiv time2 1440)))))) < e19))) → ∃ m22 : Nat, m22 < m9 ∧ J7 m22 (IntKind.wrap .i64 (i11 + 1)) H21)) ∧ (¬(i11 < (len16 : Int)) → Q (.bool false) H15))))) : Ret F fl me [(.agg [c0, c1]), (.int .i64 time2)] H Q := by
  refine ret_intro hF rfl ?_
  refine w_seq ?_
  refine w_run [1, 0] ?_
  obtain ⟨H3, hb⟩ : ∃ H', Dead1 H 1 H' := ⟨_, ⟨rfl⟩⟩
  replace h := h H3 hb
  refine t_tomb true 1 (.agg [c0, c1]) [c0, c1] H3 H (by kernel_rfl) rfl hb ?_
  refine t_done [(.agg [c0, c1]), (.int .i64 time2), (.bool false), .undef, (.agg [c0, c1]), .undef, .undef, .undef, .undef, .undef, .undef] H3 (by kernel_rfl) ?_
  refine then_norm ?_
  refine w_seq ?_
  refine w_run [0, 1, 0] ?_
  refine t_quo true .no .i64 time2 1440 H3 (by kernel_rfl) (by decide) ?_
  refine t_done [(.agg [c0, c1]), (.int .i64 time2), (.bool false), (.int .i64 (IntKind.wrap .i64 (Int.tdiv time2 1440))), (.agg [c0, c1]), .undef, .undef, .undef, .undef, .undef, .undef] H3 (by kernel_rfl) ?_
  refine then_norm ?_
  refine w_seq ?_
  refine w_run [0, 0, 0, 0, 0] ?_
  refine t_done [(.agg [c0, c1]), (.int .i64 time2), (.bool false), (.int .i64 (IntKind.wrap .i64 (Int.tdiv time2 1440))), (.agg [c0, c1]), .undef, .undef, .undef, .undef, (.int .i64 (IntKind.wrap .i64 (time2 - (IntKind.wrap .i64 (1440 * (IntKind.wrap .i64 (Int.tdiv time2 1440))))))), .undef] H3 (by kernel_rfl) ?_
  refine then_norm ?_
  refine w_seq ?_
  refine w_seq ?_
  refine w_run [0, 0, 0, 1] ?_
  refine t_call true nFHas [c1, (.int .i64 (IntKind.wrap .i64 (Int.tdiv time2 1440)))] H3 (by kernel_rfl) h ?_
  clear h
  rintro _ H5 ⟨r4, rfl, h⟩
  refine t_done [(.agg [c0, c1]), (.int .i64 time2), (.bool false), (.int .i64 (IntKind.wrap .i64 (Int.tdiv time2 1440))), (.agg [c0, c1]), (.bool r4), .undef, .undef, .undef, (.int .i64 (IntKind.wrap .i64 (time2 - (IntKind.wrap .i64 (1440 * (IntKind.wrap .i64 (Int.tdiv time2 1440))))))), .undef] H5 (by kernel_rfl) ?_
  refine then_norm ?_
  refine w_cond (t := r4) rfl (fun hc => ?_) (fun hc => ?_)
  · replace h := h.1 (is_raw.t hc)
    refine w_seq ?_
    refine w_run [0] ?_
    refine t_done [(.agg [c0, c1]), (.int .i64 time2), (.bool false), (.int .i64 (IntKind.wrap .i64 (Int.tdiv time2 1440))), (.agg [c0, c1]), (.bool r4), .undef, .undef, .undef, (.int .i64 (IntKind.wrap .i64 (time2 - (IntKind.wrap .i64 (1440 * (IntKind.wrap .i64 (Int.tdiv time2 1440))))))), .undef] H5 (by kernel_rfl) ?_
    refine then_norm ?_
    refine w_ret ?_
    refine then_ret ?_
    exact body_ret (vs := [(.bool false)]) _ (by kernel_rfl) rfl h
  · replace h := h.2 (is_raw.f hc)
    refine w_skip ?_
    refine then_norm ?_
    refine w_seq ?_
    refine w_seq ?_
    refine w_run [0] ?_
    refine t_done [(.agg [c0, c1]), (.int .i64 time2), (.bool false), (.int .i64 (IntKind.wrap .i64 (Int.tdiv time2 1440))), (.agg [c0, c1]), (.bool r4), (.int .i64 0), .undef, .undef, (.int .i64 (IntKind.wrap .i64 (time2 - (IntKind.wrap .i64 (1440 * (IntKind.wrap .i64 (Int.tdiv time2 1440))))))), .undef] H5 (by kernel_rfl) ?_
    refine then_norm ?_
    refine w_block ?_
    obtain ⟨J7, k8, h0, h⟩ := h
    refine w_loop (I := fun mI EI HI => ∃ (d10 : AV) (i11 : Int) (d12 : AV) (d13 : AV) (d14 : AV), EI = [(.agg [c0, c1]), (.int .i64 time2), d10, (.int .i64 (IntKind.wrap .i64 (Int.tdiv time2 1440))), (.agg [c0, c1]), (.bool r4), (.int .i64 i11), d12, d13, (.int .i64 (IntKind.wrap .i64 (time2 - (IntKind.wrap .i64 (1440 * (IntKind.wrap .i64 (Int.tdiv time2 1440))))))), d14] ∧ J7 mI i11 HI) ?_ k8 ⟨_, _, _, _, _, rfl, h0⟩
    clear h0
    rintro m9 EI H15 ⟨d10, i11, d12, d13, d14, rfl, hJ⟩
    replace h := h m9 i11 H15 hJ
    clear hJ
    refine w_seq ?_
    refine w_seq ?_
    refine w_run [0, 0, 0, 1, 0] ?_
    obtain ⟨len16, hl, h⟩ := h
    refine t_len true c0 len16 H15 (by kernel_rfl) hl ?_
    refine t_done [(.agg [c0, c1]), (.int .i64 time2), d10, (.int .i64 (IntKind.wrap .i64 (Int.tdiv time2 1440))), (.agg [c0, c1]), (.bool r4), (.int .i64 i11), (.bool (decide (i11 < (len16 : Int)))), d13, (.int .i64 (IntKind.wrap .i64 (time2 - (IntKind.wrap .i64 (1440 * (IntKind.wrap .i64 (Int.tdiv time2 1440))))))), d14] H15 (by kernel_rfl) ?_
    refine then_norm ?_
    refine w_cond (t := (decide (i11 < (len16 : Int)))) rfl (fun hc => ?_) (fun hc => ?_)
    · replace h := h.1 (is_dec.t hc)
      refine w_skip ?_
      refine then_norm ?_
      refine w_seq ?_
      refine w_block ?_
      refine w_seq ?_
      refine w_run [0, 0, 0, 1, 1, 1, 1] ?_
      obtain ⟨e17, e18, e19, hg20, h⟩ := h
      refine t_idxG true 3 c0 .i64 i11 H15 (by kernel_rfl) hg20 ?_
      refine t_loadG true (some 3) 3 c0 i11 0 (.agg [(.int .i64 e17), (.int .i64 e18), (.int .i64 e19)]) H15 (by kernel_rfl) hg20 ?_
      obtain ⟨H21, hb⟩ : ∃ H', Dead1 H15 1 H' := ⟨_, ⟨rfl⟩⟩
      replace h := h H21 hb
      refine t_tomb true 1 (.agg [(.int .i64 0), (.int .i64 0), (.int .i64 0)]) [(.int .i64 0), (.int .i64 0), (.int .i64 0)] H21 H15 (by kernel_rfl) rfl hb ?_
      refine t_upd true 3 0 [(.int .i64 0), (.int .i64 0), (.int .i64 0)] (.agg [(.int .i64 e17), (.int .i64 e18), (.int .i64 e19)]) [(.int .i64 e17), (.int .i64 e18), (.int .i64 e19)] [(.int .i64 e17), (.int .i64 e18), (.int .i64 e19)] H21 (by kernel_rfl) rfl (all_c rfl (all_c rfl (all_c rfl all_n))) ⟨rfl, Nat.le_of_ble_eq_true (by kernel_rfl), rfl⟩ ?_
      refine t_done [(.agg [c0, c1]), (.int .i64 time2), d10, (.int .i64 (IntKind.wrap .i64 (Int.tdiv time2 1440))), (.agg [c0, c1]), (.bool r4), (.int .i64 i11), (.bool (decide (i11 < (len16 : Int)))), (.agg [(.int .i64 e17), (.int .i64 e18), (.int .i64 e19)]), (.int .i64 (IntKind.wrap .i64 (time2 - (IntKind.wrap .i64 (1440 * (IntKind.wrap .i64 (Int.tdiv time2 1440))))))), d14] H21 (by kernel_rfl) ?_
      refine then_norm ?_
      refine w_seq ?_
      refine w_run [0, 0, 0, 1, 0, 0, 0, 0, 0, 0, 0, 0, 0, 0, 0, 0, 0] ?_
      refine t_rem true .no .i64 (IntKind.wrap .i64 (Int.tdiv time2 1440)) 7 H21 (by kernel_rfl) (by decide) ?_
      refine t_done [(.agg [c0, c1]), (.int .i64 time2), d10, (.int .i64 (IntKind.wrap .i64 (Int.tdiv time2 1440))), (.agg [c0, c1]), (.bool r4), (.int .i64 i11), (.bool (decide (i11 < (len16 : Int)))), (.agg [(.int .i64 e17), (.int .i64 e18), (.int .i64 e19)]), (.int .i64 (IntKind.wrap .i64 (time2 - (IntKind.wrap .i64 (1440 * (IntKind.wrap .i64 (Int.tdiv time2 1440))))))), (.bool ((((e17) == (Int.tmod (IntKind.wrap .i64 (Int.tdiv time2 1440)) 7)) && (decide (e18 ≤ (IntKind.wrap .i64 (time2 - (IntKind.wrap .i64 (1440 * (IntKind.wrap .i64 (Int.tdiv time2 1440))))))))) && (decide ((IntKind.wrap .i64 (time2 - (IntKind.wrap .i64 (1440 * (IntKind.wrap .i64 (Int.tdiv time2 1440)))))) < e19))))] H21 (by kernel_rfl) ?_
      refine then_norm ?_
      refine w_cond (t := ((((e17) == (Int.tmod (IntKind.wrap .i64 (Int.tdiv time2 1440)) 7)) && (decide (e18 ≤ (IntKind.wrap .i64 (time2 - (IntKind.wrap .i64 (1440 * (IntKind.wrap .i64 (Int.tdiv time2 1440))))))))) && (decide ((IntKind.wrap .i64 (time2 - (IntKind.wrap .i64 (1440 * (IntKind.wrap .i64 (Int.tdiv time2 1440)))))) < e19)))) rfl (fun hc => ?_) (fun hc => ?_)
      · replace h := h.1 ((is_and (is_and is_eq is_dec) is_dec).t hc)
        refine w_seq ?_
        refine w_run [0] ?_
        refine t_done [(.agg [c0, c1]), (.int .i64 time2), (.bool true), (.int .i64 (IntKind.wrap .i64 (Int.tdiv time2 1440))), (.agg [c0, c1]), (.bool r4), (.int .i64 i11), (.bool (decide (i11 < (len16 : Int)))), (.agg [(.int .i64 e17), (.int .i64 e18), (.int .i64 e19)]), (.int .i64 (IntKind.wrap .i64 (time2 - (IntKind.wrap .i64 (1440 * (IntKind.wrap .i64 (Int.tdiv time2 1440))))))), (.bool ((((e17) == (Int.tmod (IntKind.wrap .i64 (Int.tdiv time2 1440)) 7)) && (decide (e18 ≤ (IntKind.wrap .i64 (time2 - (IntKind.wrap .i64 (1440 * (IntKind.wrap .i64 (Int.tdiv time2 1440))))))))) && (decide ((IntKind.wrap .i64 (time2 - (IntKind.wrap .i64 (1440 * (IntKind.wrap .i64 (Int.tdiv time2 1440)))))) < e19))))] H21 (by kernel_rfl) ?_
        refine then_norm ?_
        refine w_ret ?_
        refine block_ret ?_
        refine then_ret ?_
        refine loop_ret ?_
        refine block_ret ?_
        refine then_ret ?_
        exact body_ret (vs := [(.bool true)]) _ (by kernel_rfl) rfl h
      · replace h := h.2 ((is_and (is_and is_eq is_dec) is_dec).f hc)
        refine w_skip ?_
        refine block_norm ?_
        refine then_norm ?_
        refine w_run [0, 0, 0] ?_
        refine t_done [(.agg [c0, c1]), (.int .i64 time2), d10, (.int .i64 (IntKind.wrap .i64 (Int.tdiv time2 1440))), (.agg [c0, c1]), (.bool r4), (.int .i64 (IntKind.wrap .i64 (i11 + 1))), (.bool (decide (i11 < (len16 : Int)))), (.agg [(.int .i64 e17), (.int .i64 e18), (.int .i64 e19)]), (.int .i64 (IntKind.wrap .i64 (time2 - (IntKind.wrap .i64 (1440 * (IntKind.wrap .i64 (Int.tdiv time2 1440))))))), (.bool ((((e17) == (Int.tmod (IntKind.wrap .i64 (Int.tdiv time2 1440)) 7)) && (decide (e18 ≤ (IntKind.wrap .i64 (time2 - (IntKind.wrap .i64 (1440 * (IntKind.wrap .i64 (Int.tdiv time2 1440))))))))) && (decide ((IntKind.wrap .i64 (time2 - (IntKind.wrap .i64 (1440 * (IntKind.wrap .i64 (Int.tdiv time2 1440)))))) < e19))))] H21 (by kernel_rfl) ?_
        obtain ⟨m', hm, h⟩ := h
        refine loop_norm ⟨m', hm, _, _, _, _, _, rfl, h⟩
    · replace h := h.2 (is_dec.f hc)
      refine w_exit ?_
      refine then_exit ?_
      refine loop_exit ?_
      refine block_exit ?_
      refine then_norm ?_
      refine w_seq ?_
      refine w_run [0] ?_
      refine t_done [(.agg [c0, c1]), (.int .i64 time2), (.bool false), (.int .i64 (IntKind.wrap .i64 (Int.tdiv time2 1440))), (.agg [c0, c1]), (.bool r4), (.int .i64 i11), (.bool (decide (i11 < (len16 : Int)))), d13, (.int .i64 (IntKind.wrap .i64 (time2 - (IntKind.wrap .i64 (1440 * (IntKind.wrap .i64 (Int.tdiv time2 1440))))))), d14] H15 (by kernel_rfl) ?_
      refine then_norm ?_
      refine w_ret ?_
      exact body_ret (vs := [(.bool false)]) _ (by kernel_rfl) rfl h

-- FReach
def rf_FReach (nFMinutes : Nat) : RFunc := ⟨4, 12, [.var 4],
 ((.seq (.ops [⟨.tomb 1 (.var 0), none, (some 5), true⟩, ⟨.move (.k (.int .i64 0)), none, (some 4), true⟩])
 ((.seq (.ops [⟨.move (.var 1), none, none, true⟩, ⟨.bin .sub .no (.loc 0) (.k (.int .i64 1)), none, none, true⟩, ⟨.move (.loc 1), none, (some 8), true⟩])
 ((.seq (.ops [⟨.move (.var 1), none, none, true⟩, ⟨.move (.var 3), none, none, true⟩, ⟨.bin .add .no (.loc 0) (.loc 1), none, none, true⟩, ⟨.move (.loc 2), none, (some 6), true⟩])
 ((.seq ((.seq (.ops [⟨.field 0 (some 2) (.var 5), none, none, true⟩, ⟨.move (.var 6), none, none, true⟩, ⟨.callS nFMinutes [(.loc 0), (.loc 1)], none, none, true⟩, ⟨.move (.var 2), none, none, true⟩, ⟨.bin .lss .no (.loc 2) (.loc 3), none, (some 7), true⟩])
 (.cond (.var 7) ((.seq (.ops [⟨.move (.k (.int .i64 (-1))), none, (some 4), true⟩])
 (.ret))) (.skip))))
 ((.seq (.block 0 (.loop ((.seq ((.seq (.ops [⟨.move (.var 6), none, none, true⟩, ⟨.move (.var 8), none, none, true⟩, ⟨.bin .sub .no (.loc 0) (.loc 1), none, none, true⟩, ⟨.bin .gtr .no (.loc 2) (.k (.int .i64 1)), none, (some 9), true⟩])
 (.cond (.var 9) (.skip) (.exit 0))))
 (.block 1 ((.seq (.ops [⟨.move (.var 8), none, none, true⟩, ⟨.move (.var 6), none, none, true⟩, ⟨.bin .add .no (.loc 0) (.loc 1), none, none, true⟩, ⟨.bin .quo .no (.loc 2) (.k (.int .i64 2)), none, none, true⟩, ⟨.move (.loc 3), none, (some 10), true⟩])
 ((.seq (.ops [⟨.field 0 (some 2) (.var 5), none, none, true⟩, ⟨.move (.var 10), none, none, true⟩, ⟨.callS nFMinutes [(.loc 0), (.loc 1)], none, none, true⟩, ⟨.move (.var 2), none, none, true⟩, ⟨.bin .geq .no (.loc 2) (.loc 3), none, (some 11), true⟩])
 (.cond (.var 11) (.ops [⟨.move (.var 10), none, none, true⟩, ⟨.move (.loc 0), none, (some 6), true⟩]) (.ops [⟨.move (.var 10), none, none, true⟩, ⟨.move (.loc 0), none, (some 8), true⟩])))))))))))
 ((.seq (.ops [⟨.move (.var 6), none, none, true⟩, ⟨.move (.loc 0), none, (some 4), true⟩])
 (.ret)))))))))))))⟩
theorem v_FReach {F : Nat → Option RFunc} {me nFMinutes : Nat} (hF : F me = some (rf_FReach nFMinutes)) {fl : Nat} {H : Heap} {Q : AV → Heap → Prop} (c0 : AV) (c1 : AV) (from2 : Int) (n3 : Int) (span4 : Int)
  (h : ∀ (H5 : Heap), Dead1 H 1 H5 → Ret F fl nFMinutes [(.agg [c0, c1]), (.int .i64 (IntKind.wrap .i64 (from2 + span4)))] H5 (fun v8 H7 => ∃ (r6 : Int), v8 = (.int .i64 r6) ∧ ((r6 < n3) → Q (.int .i64 (-1)) H7) ∧ (¬(r6 < n3) → ∃ (J9 : Nat → Int → Int → Heap → Prop) (k10 : Nat), J9 k10 (IntKind.wrap .i64 (from2 + span4)) (IntKind.wrap .i64 (from2 - 1)) H7 ∧ (∀ (m11 : Nat) (high12 : Int) (low13 : Int) (H17 : Heap), J9 m11 high12 low13 H17 → (((IntKind.wrap .i64 (high12 - low13)) > 1) → Ret F fl nFMinutes [(.agg [c0, c1]), (.int .i64 (IntKind.wrap .i64 (Int.tdiv (IntKind.wrap .i64 (low13 + high12)) 2)))] H17 (fun v20 H19 => ∃ (r18 : Int), v20 = (.int .i64 r18) ∧ ((r18 ≥ n3) → ∃ m21 : Nat, m21 < m11 ∧ J9 m21 (IntKind.wrap .i64 (Int.tdiv (IntKind.wrap .i64 (low13 + high12)) 2)) low13 H19) ∧ (¬(r18 ≥ n3) → ∃ m22 : Nat, m22 < m11 ∧ J9 m22 high12 (IntKind.wrap .i64 (Int.tdiv (IntKind.wrap .i64 (low13 + high12)) 2)) H19))) ∧ (¬((IntKind.wrap .i64 (high12 - low13)) > 1) → Q (.int .i64 high12) H17))))) : Ret F fl me [(.agg [c0, c1]), (.int .i64 from2), (.int .i64 n3), (.int .i64 span4)] H Q := by
  refine ret_intro hF rfl ?_
  refine w_seq ?_
  refine w_run [1, 0] ?_
  obtain ⟨H5, hb⟩ : ∃ H', Dead1 H 1 H' := ⟨_, ⟨rfl⟩⟩
  replace h := h H5 hb
  refine t_tomb true 1 (.agg [c0, c1]) [c0, c1] H5 H (by kernel_rfl) rfl hb ?_
  refine t_done [(.agg [c0, c1]), (.int .i64 from2), (.int .i64 n3), (.int .i64 span4), (.int .i64 0), (.agg [c0, c1]), .undef, .undef, .undef, .undef, .undef, .undef] H5 (by kernel_rfl) ?_
  refine then_norm ?_
  refine w_seq ?_
  refine w_run [0, 0, 0] ?_
  refine t_done [(.agg [c0, c1]), (.int .i64 from2), (.int .i64 n3), (.int .i64 span4), (.int .i64 0), (.agg [c0, c1]), .undef, .undef, (.int .i64 (IntKind.wrap .i64 (from2 - 1))), .undef, .undef, .undef] H5 (by kernel_rfl) ?_
  refine then_norm ?_
  refine w_seq ?_
  refine w_run [0, 0, 0, 0] ?_
  refine t_done [(.agg [c0, c1]), (.int .i64 from2), (.int .i64 n3), (.int .i64 span4), (.int .i64 0), (.agg [c0, c1]), (.int .i64 (IntKind.wrap .i64 (from2 + span4))), .undef, (.int .i64 (IntKind.wrap .i64 (from2 - 1))), .undef, .undef, .undef] H5 (by kernel_rfl) ?_
  refine then_norm ?_
  refine w_seq ?_
  refine w_seq ?_
  refine w_run [0, 0, 1, 0, 0] ?_
  refine t_call true nFMinutes [(.agg [c0, c1]), (.int .i64 (IntKind.wrap .i64 (from2 + span4)))] H5 (by kernel_rfl) h ?_
  clear h
  rintro _ H7 ⟨r6, rfl, h⟩
  refine t_done [(.agg [c0, c1]), (.int .i64 from2), (.int .i64 n3), (.int .i64 span4), (.int .i64 0), (.agg [c0, c1]), (.int .i64 (IntKind.wrap .i64 (from2 + span4))), (.bool (decide (r6 < n3))), (.int .i64 (IntKind.wrap .i64 (from2 - 1))), .undef, .undef, .undef] H7 (by kernel_rfl) ?_
  refine then_norm ?_
  refine w_cond (t := (decide (r6 < n3))) rfl (fun hc => ?_) (fun hc => ?_)
  · replace h := h.1 (is_dec.t hc)
    refine w_seq ?_
    refine w_run [0] ?_
    refine t_done [(.agg [c0, c1]), (.int .i64 from2), (.int .i64 n3), (.int .i64 span4), (.int .i64 (-1)), (.agg [c0, c1]), (.int .i64 (IntKind.wrap .i64 (from2 + span4))), (.bool (decide (r6 < n3))), (.int .i64 (IntKind.wrap .i64 (from2 - 1))), .undef, .undef, .undef] H7 (by kernel_rfl) ?_
    refine then_norm ?_
    refine w_ret ?_
    refine then_ret ?_
    exact body_ret (vs := [(.int .i64 (-1))]) _ (by kernel_rfl) rfl h
  · replace h := h.2 (is_dec.f hc)
    refine w_skip ?_
    refine then_norm ?_
    refine w_seq ?_
    refine w_block ?_
    obtain ⟨J9, k10, h0, h⟩ := h
    refine w_loop (I := fun mI EI HI => ∃ (high12 : Int) (low13 : Int) (d14 : AV) (d15 : AV) (d16 : AV), EI = [(.agg [c0, c1]), (.int .i64 from2), (.int .i64 n3), (.int .i64 span4), (.int .i64 0), (.agg [c0, c1]), (.int .i64 high12), (.bool (decide (r6 < n3))), (.int .i64 low13), d14, d15, d16] ∧ J9 mI high12 low13 HI) ?_ k10 ⟨_, _, _, _, _, rfl, h0⟩
    clear h0
    rintro m11 EI H17 ⟨high12, low13, d14, d15, d16, rfl, hJ⟩
    replace h := h m11 high12 low13 H17 hJ
    clear hJ
    refine w_seq ?_
    refine w_seq ?_
    refine w_run [0, 0, 0, 0] ?_
    refine t_done [(.agg [c0, c1]), (.int .i64 from2), (.int .i64 n3), (.int .i64 span4), (.int .i64 0), (.agg [c0, c1]), (.int .i64 high12), (.bool (decide (r6 < n3))), (.int .i64 low13), (.bool (decide ((IntKind.wrap .i64 (high12 - low13)) > 1))), d15, d16] H17 (by kernel_rfl) ?_
    refine then_norm ?_
    refine w_cond (t := (decide ((IntKind.wrap .i64 (high12 - low13)) > 1))) rfl (fun hc => ?_) (fun hc => ?_)
    · replace h := h.1 (is_dec.t hc)
      refine w_skip ?_
      refine then_norm ?_
      refine w_block ?_
      refine w_seq ?_
      refine w_run [0, 0, 0, 1, 0] ?_
      refine t_quo true .no .i64 (IntKind.wrap .i64 (low13 + high12)) 2 H17 (by kernel_rfl) (by decide) ?_
      refine t_done [(.agg [c0, c1]), (.int .i64 from2), (.int .i64 n3), (.int .i64 span4), (.int .i64 0), (.agg [c0, c1]), (.int .i64 high12), (.bool (decide (r6 < n3))), (.int .i64 low13), (.bool (decide ((IntKind.wrap .i64 (high12 - low13)) > 1))), (.int .i64 (IntKind.wrap .i64 (Int.tdiv (IntKind.wrap .i64 (low13 + high12)) 2))), d16] H17 (by kernel_rfl) ?_
      refine then_norm ?_
      refine w_seq ?_
      refine w_run [0, 0, 1, 0, 0] ?_
      refine t_call true nFMinutes [(.agg [c0, c1]), (.int .i64 (IntKind.wrap .i64 (Int.tdiv (IntKind.wrap .i64 (low13 + high12)) 2)))] H17 (by kernel_rfl) h ?_
      clear h
      rintro _ H19 ⟨r18, rfl, h⟩
      refine t_done [(.agg [c0, c1]), (.int .i64 from2), (.int .i64 n3), (.int .i64 span4), (.int .i64 0), (.agg [c0, c1]), (.int .i64 high12), (.bool (decide (r6 < n3))), (.int .i64 low13), (.bool (decide ((IntKind.wrap .i64 (high12 - low13)) > 1))), (.int .i64 (IntKind.wrap .i64 (Int.tdiv (IntKind.wrap .i64 (low13 + high12)) 2))), (.bool (decide (r18 ≥ n3)))] H19 (by kernel_rfl) ?_
      refine then_norm ?_
      refine w_cond (t := (decide (r18 ≥ n3))) rfl (fun hc => ?_) (fun hc => ?_)
      · replace h := h.1 (is_dec.t hc)
        refine w_run [0, 0] ?_
        refine t_done [(.agg [c0, c1]), (.int .i64 from2), (.int .i64 n3), (.int .i64 span4), (.int .i64 0), (.agg [c0, c1]), (.int .i64 (IntKind.wrap .i64 (Int.tdiv (IntKind.wrap .i64 (low13 + high12)) 2))), (.bool (decide (r6 < n3))), (.int .i64 low13), (.bool (decide ((IntKind.wrap .i64 (high12 - low13)) > 1))), (.int .i64 (IntKind.wrap .i64 (Int.tdiv (IntKind.wrap .i64 (low13 + high12)) 2))), (.bool (decide (r18 ≥ n3)))] H19 (by kernel_rfl) ?_
        refine block_norm ?_
        obtain ⟨m', hm, h⟩ := h
        refine loop_norm ⟨m', hm, _, _, _, _, _, rfl, h⟩
      · replace h := h.2 (is_dec.f hc)
        refine w_run [0, 0] ?_
        refine t_done [(.agg [c0, c1]), (.int .i64 from2), (.int .i64 n3), (.int .i64 span4), (.int .i64 0), (.agg [c0, c1]), (.int .i64 high12), (.bool (decide (r6 < n3))), (.int .i64 (IntKind.wrap .i64 (Int.tdiv (IntKind.wrap .i64 (low13 + high12)) 2))), (.bool (decide ((IntKind.wrap .i64 (high12 - low13)) > 1))), (.int .i64 (IntKind.wrap .i64 (Int.tdiv (IntKind.wrap .i64 (low13 + high12)) 2))), (.bool (decide (r18 ≥ n3)))] H19 (by kernel_rfl) ?_
        refine block_norm ?_
        obtain ⟨m', hm, h⟩ := h
        refine loop_norm ⟨m', hm, _, _, _, _, _, rfl, h⟩
    · replace h := h.2 (is_dec.f hc)
      refine w_exit ?_
      refine then_exit ?_
      refine loop_exit ?_
      refine block_exit ?_
      refine then_norm ?_
      refine w_seq ?_
      refine w_run [0, 0] ?_
      refine t_done [(.agg [c0, c1]), (.int .i64 from2), (.int .i64 n3), (.int .i64 span4), (.int .i64 high12), (.agg [c0, c1]), (.int .i64 high12), (.bool (decide (r6 < n3))), (.int .i64 low13), (.bool (decide ((IntKind.wrap .i64 (high12 - low13)) > 1))), d15, d16] H17 (by kernel_rfl) ?_
      refine then_norm ?_
      refine w_ret ?_
      exact body_ret (vs := [(.int .i64 high12)]) _ (by kernel_rfl) rfl h

-- FMinutes
def rf_FMinutes (nFupTo : Nat) : RFunc := ⟨2, 9, [.var 2],
 ((.seq (.ops [⟨.tomb 1 (.var 0), none, (some 3), true⟩, ⟨.move (.k (.int .i64 0)), none, (some 2), true⟩])
 ((.seq (.ops [⟨.field 0 (some 2) (.var 3), none, none, true⟩, ⟨.move (.var 1), none, none, true⟩, ⟨.callS nFupTo [(.loc 0), (.loc 1)], none, none, true⟩, ⟨.move (.loc 2), none, (some 8), true⟩])
 ((.seq ((.seq (.ops [⟨.move (.k (.int .i64 0)), none, (some 4), true⟩])
 (.block 0 (.loop ((.seq ((.seq (.ops [⟨.move (.var 4), none, none, true⟩, ⟨.field 0 none (.var 3), none, none, true⟩, ⟨.field 1 none (.var 3), none, none, true⟩, ⟨.len (.loc 2), none, none, true⟩, ⟨.bin .lss .no (.loc 0) (.loc 3), none, (some 5), true⟩])
 (.cond (.var 5) (.skip) (.exit 0))))
 ((.seq (.block 1 ((.seq (.ops [⟨.field 0 none (.var 3), none, none, true⟩, ⟨.field 1 none (.var 3), none, none, true⟩, ⟨.move (.var 4), none, none, true⟩, ⟨.indexAddr 1 (.loc 1) (.loc 2), none, none, true⟩, ⟨.load none (.loc 3), none, none, true⟩, ⟨.bin .mul .no (.k (.int .i64 1440)) (.loc 4), none, none, true⟩, ⟨.move (.loc 5), none, (some 6), true⟩])
 ((.seq (.ops [⟨.move (.var 6), none, none, true⟩, ⟨.move (.var 1), none, none, true⟩, ⟨.bin .lss .no (.loc 0) (.loc 1), none, (some 7), true⟩])
 (.cond (.var 7) (.ops [⟨.move (.var 8), none, none, false⟩, ⟨.field 0 (some 2) (.var 3), none, none, false⟩, ⟨.move (.var 1), none, none, false⟩, ⟨.move (.var 6), none, none, false⟩, ⟨.bin .add .no (.loc 3) (.k (.int .i64 1440)), none, none, false⟩, ⟨.min (.loc 2) [(.loc 4)], none, none, false⟩, ⟨.callS nFupTo [(.loc 1), (.loc 5)], none, none, false⟩, ⟨.field 0 (some 2) (.var 3), none, none, false⟩, ⟨.move (.var 6), none, none, false⟩, ⟨.callS nFupTo [(.loc 7), (.loc 8)], none, none, true⟩, ⟨.bin .sub .no (.loc 6) (.loc 9), none, none, true⟩, ⟨.bin .sub .no (.loc 0) (.loc 10), none, none, true⟩, ⟨.move (.loc 11), none, (some 8), true⟩]) (.skip)))))))
 (.ops [⟨.move (.var 4), none, none, true⟩, ⟨.bin .add .no (.loc 0) (.k (.int .i64 1)), none, none, true⟩, ⟨.move (.loc 1), none, (some 4), true⟩])))))))))
 ((.seq (.ops [⟨.move (.var 8), none, none, true⟩, ⟨.move (.loc 0), none, (some 2), true⟩])
 (.ret)))))))))⟩
theorem v_FMinutes {F : Nat → Option RFunc} {me nFupTo : Nat} (hF : F me = some (rf_FMinutes nFupTo)) {fl : Nat} {H : Heap} {Q : AV → Heap → Prop} (c0 : AV) (c1 : AV) (time2 : Int)
  (h : ∀ (H3 : Heap), Dead1 H 1 H3 → Ret F fl nFupTo [(.agg [c0, c1]), (.int .i64 time2)] H3 (fun v6 H5 => ∃ (r4 : Int), v6 = (.int .i64 r4) ∧ ∃ (J7 : Nat → Int → Int → Heap → Prop) (k8 : Nat), J7 k8 0 r4 H5 ∧ (∀ (m9 : Nat) (i10 : Int) (n14 : Int) (H15 : Heap), J7 m9 i10 n14 H15 → ∃ len16 : Nat, lenA c1 = some len16 ∧ ((i10 < (len16 : Int)) → ∃ (e17 : Int), getA H15 1 none c1 i10 0 = some (.int .i64 e17) ∧ (((IntKind.wrap .i64 (1440 * e17)) < time2) → Ret F H15.length nFupTo [(.agg [c0, c1]), (.int .i64 (imin time2 (IntKind.wrap .i64 ((IntKind.wrap .i64 (1440 * e17)) + 1440))))] H15 (fun v21 H20 => ∃ (r19 : Int), v21 = (.int .i64 r19) ∧ Ret F fl nFupTo [(.agg [c0, c1]), (.int .i64 (IntKind.wrap .i64 (1440 * e17)))] H20 (fun v24 H23 => ∃ (r22 : Int), v24 = (.int .i64 r22) ∧ ∃ m25 : Nat, m25 < m9 ∧ J7 m25 (IntKind.wrap .i64 (i10 + 1)) (IntKind.wrap .i64 (n14 - (IntKind.wrap .i64 (r19 - r22)))) H23))) ∧ (¬((IntKind.wrap .i64 (1440 * e17)) < time2) → ∃ m26 : Nat, m26 < m9 ∧ J7 m26 (IntKind.wrap .i64 (i10 + 1)) n14 H15)) ∧ (¬(i10 < (len16 : Int)) → Q (.int .i64 n14) H15)))) : Ret F fl me [(.agg [c0, c1]), (.int .i64 time2)] H Q := by
  refine ret_intro hF rfl ?_
  refine w_seq ?_
  refine w_run [1, 0] ?_
  obtain ⟨H3, hb⟩ : ∃ H', Dead1 H 1 H' := ⟨_, ⟨rfl⟩⟩
  replace h := h H3 hb
  refine t_tomb true 1 (.agg [c0, c1]) [c0, c1] H3 H (by kernel_rfl) rfl hb ?_
  refine t_done [(.agg [c0, c1]), (.int .i64 time2), (.int .i64 0), (.agg [c0, c1]), .undef, .undef, .undef, .undef, .undef] H3 (by kernel_rfl) ?_
  refine then_norm ?_
  refine w_seq ?_
  refine w_run [0, 0, 1, 0] ?_
  refine t_call true nFupTo [(.agg [c0, c1]), (.int .i64 time2)] H3 (by kernel_rfl) h ?_
  clear h
  rintro _ H5 ⟨r4, rfl, h⟩
  refine t_done [(.agg [c0, c1]), (.int .i64 time2), (.int .i64 0), (.agg [c0, c1]), .undef, .undef, .undef, .undef, (.int .i64 r4)] H5 (by kernel_rfl) ?_
  refine then_norm ?_
  refine w_seq ?_
  refine w_seq ?_
  refine w_run [0] ?_
  refine t_done [(.agg [c0, c1]), (.int .i64 time2), (.int .i64 0), (.agg [c0, c1]), (.int .i64 0), .undef, .undef, .undef, (.int .i64 r4)] H5 (by kernel_rfl) ?_
  refine then_norm ?_
  refine w_block ?_
  obtain ⟨J7, k8, h0, h⟩ := h
  refine w_loop (I := fun mI EI HI => ∃ (i10 : Int) (d11 : AV) (d12 : AV) (d13 : AV) (n14 : Int), EI = [(.agg [c0, c1]), (.int .i64 time2), (.int .i64 0), (.agg [c0, c1]), (.int .i64 i10), d11, d12, d13, (.int .i64 n14)] ∧ J7 mI i10 n14 HI) ?_ k8 ⟨_, _, _, _, _, rfl, h0⟩
  clear h0
  rintro m9 EI H15 ⟨i10, d11, d12, d13, n14, rfl, hJ⟩
  replace h := h m9 i10 n14 H15 hJ
  clear hJ
  refine w_seq ?_
  refine w_seq ?_
  refine w_run [0, 0, 0, 1, 0] ?_
  obtain ⟨len16, hl, h⟩ := h
  refine t_len true c1 len16 H15 (by kernel_rfl) hl ?_
  refine t_done [(.agg [c0, c1]), (.int .i64 time2), (.int .i64 0), (.agg [c0, c1]), (.int .i64 i10), (.bool (decide (i10 < (len16 : Int)))), d12, d13, (.int .i64 n14)] H15 (by kernel_rfl) ?_
  refine then_norm ?_
  refine w_cond (t := (decide (i10 < (len16 : Int)))) rfl (fun hc => ?_) (fun hc => ?_)
  · replace h := h.1 (is_dec.t hc)
    refine w_skip ?_
    refine then_norm ?_
    refine w_seq ?_
    refine w_block ?_
    refine w_seq ?_
    refine w_run [0, 0, 0, 1, 1, 0, 0] ?_
    obtain ⟨e17, hg18, h⟩ := h
    refine t_idxG true 1 c1 .i64 i10 H15 (by kernel_rfl) hg18 ?_
    refine t_loadG true none 1 c1 i10 0 (.int .i64 e17) H15 (by kernel_rfl) hg18 ?_
    refine t_done [(.agg [c0, c1]), (.int .i64 time2), (.int .i64 0), (.agg [c0, c1]), (.int .i64 i10), (.bool (decide (i10 < (len16 : Int)))), (.int .i64 (IntKind.wrap .i64 (1440 * e17))), d13, (.int .i64 n14)] H15 (by kernel_rfl) ?_
    refine then_norm ?_
    refine w_seq ?_
    refine w_run [0, 0, 0] ?_
    refine t_done [(.agg [c0, c1]), (.int .i64 time2), (.int .i64 0), (.agg [c0, c1]), (.int .i64 i10), (.bool (decide (i10 < (len16 : Int)))), (.int .i64 (IntKind.wrap .i64 (1440 * e17))), (.bool (decide ((IntKind.wrap .i64 (1440 * e17)) < time2))), (.int .i64 n14)] H15 (by kernel_rfl) ?_
    refine then_norm ?_
    refine w_cond (t := (decide ((IntKind.wrap .i64 (1440 * e17)) < time2))) rfl (fun hc => ?_) (fun hc => ?_)
    · replace h := h.1 (is_dec.t hc)
      refine w_run [0, 0, 0, 0, 0, 0, 1, 0, 0, 1, 0, 0, 0] ?_
      refine t_call false nFupTo [(.agg [c0, c1]), (.int .i64 (imin time2 (IntKind.wrap .i64 ((IntKind.wrap .i64 (1440 * e17)) + 1440))))] H15 (by kernel_rfl) h ?_
      clear h
      rintro _ H20 ⟨r19, rfl, h⟩
      refine t_call true nFupTo [(.agg [c0, c1]), (.int .i64 (IntKind.wrap .i64 (1440 * e17)))] H20 (by kernel_rfl) h ?_
      clear h
      rintro _ H23 ⟨r22, rfl, h⟩
      refine t_done [(.agg [c0, c1]), (.int .i64 time2), (.int .i64 0), (.agg [c0, c1]), (.int .i64 i10), (.bool (decide (i10 < (len16 : Int)))), (.int .i64 (IntKind.wrap .i64 (1440 * e17))), (.bool (decide ((IntKind.wrap .i64 (1440 * e17)) < time2))), (.int .i64 (IntKind.wrap .i64 (n14 - (IntKind.wrap .i64 (r19 - r22)))))] H23 (by kernel_rfl) ?_
      refine block_norm ?_
      refine then_norm ?_
      refine w_run [0, 0, 0] ?_
      refine t_done [(.agg [c0, c1]), (.int .i64 time2), (.int .i64 0), (.agg [c0, c1]), (.int .i64 (IntKind.wrap .i64 (i10 + 1))), (.bool (decide (i10 < (len16 : Int)))), (.int .i64 (IntKind.wrap .i64 (1440 * e17))), (.bool (decide ((IntKind.wrap .i64 (1440 * e17)) < time2))), (.int .i64 (IntKind.wrap .i64 (n14 - (IntKind.wrap .i64 (r19 - r22)))))] H23 (by kernel_rfl) ?_
      obtain ⟨m', hm, h⟩ := h
      refine loop_norm ⟨m', hm, _, _, _, _, _, rfl, h⟩
    · replace h := h.2 (is_dec.f hc)
      refine w_skip ?_
      refine block_norm ?_
      refine then_norm ?_
      refine w_run [0, 0, 0] ?_
      refine t_done [(.agg [c0, c1]), (.int .i64 time2), (.int .i64 0), (.agg [c0, c1]), (.int .i64 (IntKind.wrap .i64 (i10 + 1))), (.bool (decide (i10 < (len16 : Int)))), (.int .i64 (IntKind.wrap .i64 (1440 * e17))), (.bool (decide ((IntKind.wrap .i64 (1440 * e17)) < time2))), (.int .i64 n14)] H15 (by kernel_rfl) ?_
      obtain ⟨m', hm, h⟩ := h
      refine loop_norm ⟨m', hm, _, _, _, _, _, rfl, h⟩
  · replace h := h.2 (is_dec.f hc)
    refine w_exit ?_
    refine then_exit ?_
    refine loop_exit ?_
    refine block_exit ?_
    refine then_norm ?_
    refine w_seq ?_
    refine w_run [0, 0] ?_
    refine t_done [(.agg [c0, c1]), (.int .i64 time2), (.int .i64 n14), (.agg [c0, c1]), (.int .i64 i10), (.bool (decide (i10 < (len16 : Int)))), d12, d13, (.int .i64 n14)] H15 (by kernel_rfl) ?_
    refine then_norm ?_
    refine w_ret ?_
    exact body_ret (vs := [(.int .i64 n14)]) _ (by kernel_rfl) rfl h

-- FupTo
def rf_FupTo : RFunc := ⟨2, 11, [.var 2],
 ((.seq (.ops [⟨.tomb 1 (.var 0), none, (some 4), true⟩, ⟨.move (.k (.int .i64 0)), none, (some 2), true⟩])
 ((.seq (.ops [⟨.move (.k (.int .i64 0)), none, (some 7), true⟩])
 ((.seq (.ops [⟨.move (.k (.int .i64 0)), none, (some 9), true⟩])
 ((.seq ((.seq (.ops [⟨.move (.k (.int .i64 0)), none, (some 3), true⟩])
 (.block 0 (.loop ((.seq ((.seq (.ops [⟨.move (.var 3), none, none, true⟩, ⟨.field 0 none (.var 4), none, none, true⟩, ⟨.field 0 none (.var 4), none, none, true⟩, ⟨.len (.loc 2), none, none, true⟩, ⟨.bin .lss .no (.loc 0) (.loc 3), none, (some 5), true⟩])
 (.cond (.var 5) (.skip) (.exit 0))))
 ((.seq (.block 1 ((.seq (.ops [⟨.field 0 none (.var 4), none, none, true⟩, ⟨.field 0 none (.var 4), none, none, true⟩, ⟨.move (.var 3), none, none, true⟩, ⟨.indexAddr 3 (.loc 1) (.loc 2), none, none, true⟩, ⟨.load (some 3) (.loc 3), none, none, true⟩, ⟨.tomb 1 (.k (.agg [.int .i64 0, .int .i64 0, .int .i64 0])), none, (some 6), true⟩, ⟨.upd 3 0 (.loc 5) (.loc 4), none, (some 6), true⟩])
 ((.seq (.ops [⟨.field 0 none (.var 6), none, none, true⟩, ⟨.field 0 none (.var 6), none, none, true⟩, ⟨.bin .mul .no (.k (.int .i64 1440)) (.loc 1), none, none, true⟩, ⟨.field 0 none (.var 6), none, none, true⟩, ⟨.field 1 none (.var 6), none, none, true⟩, ⟨.bin .add .no (.loc 2) (.loc 4), none, none, true⟩, ⟨.move (.loc 5), none, (some 10), true⟩])
 ((.seq (.ops [⟨.field 0 none (.var 6), none, none, true⟩, ⟨.field 2 none (.var 6), none, none, true⟩, ⟨.field 0 none (.var 6), none, none, true⟩, ⟨.field 1 none (.var 6), none, none, true⟩, ⟨.bin .sub .no (.loc 1) (.loc 3), none, none, true⟩, ⟨.move (.loc 4), none, (some 8), true⟩])
 ((.seq (.ops [⟨.move (.var 7), none, none, true⟩, ⟨.move (.var 8), none, none, true⟩, ⟨.bin .add .no (.loc 0) (.loc 1), none, none, true⟩, ⟨.move (.loc 2), none, (some 7), true⟩])
 (.ops [⟨.move (.var 9), none, none, true⟩, ⟨.move (.var 8), none, none, true⟩, ⟨.move (.var 1), none, none, true⟩, ⟨.bin .rem .no (.loc 2) (.k (.int .i64 10080)), none, none, true⟩, ⟨.move (.var 10), none, none, true⟩, ⟨.bin .sub .no (.loc 3) (.loc 4), none, none, true⟩, ⟨.min (.loc 1) [(.loc 5)], none, none, true⟩, ⟨.max (.k (.int .i64 0)) [(.loc 6)], none, none, true⟩, ⟨.bin .add .no (.loc 0) (.loc 7), none, none, true⟩, ⟨.move (.loc 8), none, (some 9), true⟩]))))))))))
 (.ops [⟨.move (.var 3), none, none, true⟩, ⟨.bin .add .no (.loc 0) (.k (.int .i64 1)), none, none, true⟩, ⟨.move (.loc 1), none, (some 3), true⟩])))))))))
 ((.seq (.ops [⟨.move (.var 1), none, none, true⟩, ⟨.bin .quo .no (.loc 0) (.k (.int .i64 10080)), none, none, true⟩, ⟨.move (.var 7), none, none, true⟩, ⟨.bin .mul .no (.loc 1) (.loc 2), none, none, true⟩, ⟨.move (.var 9), none, none, true⟩, ⟨.bin .add .no (.loc 3) (.loc 4), none, none, true⟩, ⟨.move (.loc 5), none, (some 2), true⟩])
 (.ret)))))))))))⟩
theorem v_FupTo {F : Nat → Option RFunc} {me : Nat} (hF : F me = some (rf_FupTo )) {fl : Nat} {H : Heap} {Q : AV → Heap → Prop} (c0 : AV) (c1 : AV) (time2 : Int)
  (h : ∀ (H3 : Heap), Dead1 H 1 H3 → ∃ (J4 : Nat → Int → Int → Int → Heap → Prop) (k5 : Nat), J4 k5 0 0 0 H3 ∧ (∀ (m6 : Nat) (i7 : Int) (week10 : Int) (rest12 : Int) (H14 : Heap), J4 m6 i7 week10 rest12 H14 → ∃ len15 : Nat, lenA c0 = some len15 ∧ ((i7 < (len15 : Int)) → ∃ (e16 : Int) (e17 : Int) (e18 : Int), getA H14 3 (some 3) c0 i7 0 = some (.agg [(.int .i64 e16), (.int .i64 e17), (.int .i64 e18)]) ∧ ∀ (H20 : Heap), Dead1 H14 1 H20 → ∃ m21 : Nat, m21 < m6 ∧ J4 m21 (IntKind.wrap .i64 (i7 + 1)) (IntKind.wrap .i64 (week10 + (IntKind.wrap .i64 (e18 - e17)))) (IntKind.wrap .i64 (rest12 + (imax 0 (imin (IntKind.wrap .i64 (e18 - e17)) (IntKind.wrap .i64 ((Int.tmod time2 10080) - (IntKind.wrap .i64 ((IntKind.wrap .i64 (1440 * e16)) + e17)))))))) H20) ∧ (¬(i7 < (len15 : Int)) → Q (.int .i64 (IntKind.wrap .i64 ((IntKind.wrap .i64 ((IntKind.wrap .i64 (Int.tdiv time2 10080)) * week10)) + rest12))) H14))) : Ret F fl me [(.agg [c0, c1]), (.int .i64 time2)] H Q := by
  refine ret_intro hF rfl ?_
  refine w_seq ?_
  refine w_run [1, 0] ?_
  obtain ⟨H3, hb⟩ : ∃ H', Dead1 H 1 H' := ⟨_, ⟨rfl⟩⟩
  replace h := h H3 hb
  refine t_tomb true 1 (.agg [c0, c1]) [c0, c1] H3 H (by kernel_rfl) rfl hb ?_
  refine t_done [(.agg [c0, c1]), (.int .i64 time2), (.int .i64 0), .undef, (.agg [c0, c1]), .undef, .undef, .undef, .undef, .undef, .undef] H3 (by kernel_rfl) ?_
  refine then_norm ?_
  refine w_seq ?_
  refine w_run [0] ?_
  refine t_done [(.agg [c0, c1]), (.int .i64 time2), (.int .i64 0), .undef, (.agg [c0, c1]), .undef, .undef, (.int .i64 0), .undef, .undef, .undef] H3 (by kernel_rfl) ?_
  refine then_norm ?_
  refine w_seq ?_
  refine w_run [0] ?_
  refine t_done [(.agg [c0, c1]), (.int .i64 time2), (.int .i64 0), .undef, (.agg [c0, c1]), .undef, .undef, (.int .i64 0), .undef, (.int .i64 0), .undef] H3 (by kernel_rfl) ?_
  refine then_norm ?_
  refine w_seq ?_
  refine w_seq ?_
  refine w_run [0] ?_
  refine t_done [(.agg [c0, c1]), (.int .i64 time2), (.int .i64 0), (.int .i64 0), (.agg [c0, c1]), .undef, .undef, (.int .i64 0), .undef, (.int .i64 0), .undef] H3 (by kernel_rfl) ?_
  refine then_norm ?_
  refine w_block ?_
  obtain ⟨J4, k5, h0, h⟩ := h
  refine w_loop (I := fun mI EI HI => ∃ (i7 : Int) (d8 : AV) (d9 : AV) (week10 : Int) (d11 : AV) (rest12 : Int) (d13 : AV), EI = [(.agg [c0, c1]), (.int .i64 time2), (.int .i64 0), (.int .i64 i7), (.agg [c0, c1]), d8, d9, (.int .i64 week10), d11, (.int .i64 rest12), d13] ∧ J4 mI i7 week10 rest12 HI) ?_ k5 ⟨_, _, _, _, _, _, _, rfl, h0⟩
  clear h0
  rintro m6 EI H14 ⟨i7, d8, d9, week10, d11, rest12, d13, rfl, hJ⟩
  replace h := h m6 i7 week10 rest12 H14 hJ
  clear hJ
  refine w_seq ?_
  refine w_seq ?_
  refine w_run [0, 0, 0, 1, 0] ?_
  obtain ⟨len15, hl, h⟩ := h
  refine t_len true c0 len15 H14 (by kernel_rfl) hl ?_
  refine t_done [(.agg [c0, c1]), (.int .i64 time2), (.int .i64 0), (.int .i64 i7), (.agg [c0, c1]), (.bool (decide (i7 < (len15 : Int)))), d9, (.int .i64 week10), d11, (.int .i64 rest12), d13] H14 (by kernel_rfl) ?_
  refine then_norm ?_
  refine w_cond (t := (decide (i7 < (len15 : Int)))) rfl (fun hc => ?_) (fun hc => ?_)
  · replace h := h.1 (is_dec.t hc)
    refine w_skip ?_
    refine then_norm ?_
    refine w_seq ?_
    refine w_block ?_
    refine w_seq ?_
    refine w_run [0, 0, 0, 1, 1, 1, 1] ?_
    obtain ⟨e16, e17, e18, hg19, h⟩ := h
    refine t_idxG true 3 c0 .i64 i7 H14 (by kernel_rfl) hg19 ?_
    refine t_loadG true (some 3) 3 c0 i7 0 (.agg [(.int .i64 e16), (.int .i64 e17), (.int .i64 e18)]) H14 (by kernel_rfl) hg19 ?_
    obtain ⟨H20, hb⟩ : ∃ H', Dead1 H14 1 H' := ⟨_, ⟨rfl⟩⟩
    replace h := h H20 hb
    refine t_tomb true 1 (.agg [(.int .i64 0), (.int .i64 0), (.int .i64 0)]) [(.int .i64 0), (.int .i64 0), (.int .i64 0)] H20 H14 (by kernel_rfl) rfl hb ?_
    refine t_upd true 3 0 [(.int .i64 0), (.int .i64 0), (.int .i64 0)] (.agg [(.int .i64 e16), (.int .i64 e17), (.int .i64 e18)]) [(.int .i64 e16), (.int .i64 e17), (.int .i64 e18)] [(.int .i64 e16), (.int .i64 e17), (.int .i64 e18)] H20 (by kernel_rfl) rfl (all_c rfl (all_c rfl (all_c rfl all_n))) ⟨rfl, Nat.le_of_ble_eq_true (by kernel_rfl), rfl⟩ ?_
    refine t_done [(.agg [c0, c1]), (.int .i64 time2), (.int .i64 0), (.int .i64 i7), (.agg [c0, c1]), (.bool (decide (i7 < (len15 : Int)))), (.agg [(.int .i64 e16), (.int .i64 e17), (.int .i64 e18)]), (.int .i64 week10), d11, (.int .i64 rest12), d13] H20 (by kernel_rfl) ?_
    refine then_norm ?_
    refine w_seq ?_
    refine w_run [0, 0, 0, 0, 0, 0, 0] ?_
    refine t_done [(.agg [c0, c1]), (.int .i64 time2), (.int .i64 0), (.int .i64 i7), (.agg [c0, c1]), (.bool (decide (i7 < (len15 : Int)))), (.agg [(.int .i64 e16), (.int .i64 e17), (.int .i64 e18)]), (.int .i64 week10), d11, (.int .i64 rest12), (.int .i64 (IntKind.wrap .i64 ((IntKind.wrap .i64 (1440 * e16)) + e17)))] H20 (by kernel_rfl) ?_
    refine then_norm ?_
    refine w_seq ?_
    refine w_run [0, 0, 0, 0, 0, 0] ?_
    refine t_done [(.agg [c0, c1]), (.int .i64 time2), (.int .i64 0), (.int .i64 i7), (.agg [c0, c1]), (.bool (decide (i7 < (len15 : Int)))), (.agg [(.int .i64 e16), (.int .i64 e17), (.int .i64 e18)]), (.int .i64 week10), (.int .i64 (IntKind.wrap .i64 (e18 - e17))), (.int .i64 rest12), (.int .i64 (IntKind.wrap .i64 ((IntKind.wrap .i64 (1440 * e16)) + e17)))] H20 (by kernel_rfl) ?_
    refine then_norm ?_
    refine w_seq ?_
    refine w_run [0, 0, 0, 0] ?_
    refine t_done [(.agg [c0, c1]), (.int .i64 time2), (.int .i64 0), (.int .i64 i7), (.agg [c0, c1]), (.bool (decide (i7 < (len15 : Int)))), (.agg [(.int .i64 e16), (.int .i64 e17), (.int .i64 e18)]), (.int .i64 (IntKind.wrap .i64 (week10 + (IntKind.wrap .i64 (e18 - e17))))), (.int .i64 (IntKind.wrap .i64 (e18 - e17))), (.int .i64 rest12), (.int .i64 (IntKind.wrap .i64 ((IntKind.wrap .i64 (1440 * e16)) + e17)))] H20 (by kernel_rfl) ?_
    refine then_norm ?_
    refine w_run [0, 0, 0, 1, 0, 0, 0, 0, 0, 0] ?_
    refine t_rem true .no .i64 time2 10080 H20 (by kernel_rfl) (by decide) ?_
    refine t_done [(.agg [c0, c1]), (.int .i64 time2), (.int .i64 0), (.int .i64 i7), (.agg [c0, c1]), (.bool (decide (i7 < (len15 : Int)))), (.agg [(.int .i64 e16), (.int .i64 e17), (.int .i64 e18)]), (.int .i64 (IntKind.wrap .i64 (week10 + (IntKind.wrap .i64 (e18 - e17))))), (.int .i64 (IntKind.wrap .i64 (e18 - e17))), (.int .i64 (IntKind.wrap .i64 (rest12 + (imax 0 (imin (IntKind.wrap .i64 (e18 - e17)) (IntKind.wrap .i64 ((Int.tmod time2 10080) - (IntKind.wrap .i64 ((IntKind.wrap .i64 (1440 * e16)) + e17))))))))), (.int .i64 (IntKind.wrap .i64 ((IntKind.wrap .i64 (1440 * e16)) + e17)))] H20 (by kernel_rfl) ?_
    refine block_norm ?_
    refine then_norm ?_
    refine w_run [0, 0, 0] ?_
    refine t_done [(.agg [c0, c1]), (.int .i64 time2), (.int .i64 0), (.int .i64 (IntKind.wrap .i64 (i7 + 1))), (.agg [c0, c1]), (.bool (decide (i7 < (len15 : Int)))), (.agg [(.int .i64 e16), (.int .i64 e17), (.int .i64 e18)]), (.int .i64 (IntKind.wrap .i64 (week10 + (IntKind.wrap .i64 (e18 - e17))))), (.int .i64 (IntKind.wrap .i64 (e18 - e17))), (.int .i64 (IntKind.wrap .i64 (rest12 + (imax 0 (imin (IntKind.wrap .i64 (e18 - e17)) (IntKind.wrap .i64 ((Int.tmod time2 10080) - (IntKind.wrap .i64 ((IntKind.wrap .i64 (1440 * e16)) + e17))))))))), (.int .i64 (IntKind.wrap .i64 ((IntKind.wrap .i64 (1440 * e16)) + e17)))] H20 (by kernel_rfl) ?_
    obtain ⟨m', hm, h⟩ := h
    refine loop_norm ⟨m', hm, _, _, _, _, _, _, _, rfl, h⟩
  · replace h := h.2 (is_dec.f hc)
    refine w_exit ?_
    refine then_exit ?_
    refine loop_exit ?_
    refine block_exit ?_
    refine then_norm ?_
    refine w_seq ?_
    refine w_run [0, 1, 0, 0, 0, 0, 0] ?_
    refine t_quo true .no .i64 time2 10080 H14 (by kernel_rfl) (by decide) ?_
    refine t_done [(.agg [c0, c1]), (.int .i64 time2), (.int .i64 (IntKind.wrap .i64 ((IntKind.wrap .i64 ((IntKind.wrap .i64 (Int.tdiv time2 10080)) * week10)) + rest12))), (.int .i64 i7), (.agg [c0, c1]), (.bool (decide (i7 < (len15 : Int)))), d9, (.int .i64 week10), d11, (.int .i64 rest12), d13] H14 (by kernel_rfl) ?_
    refine then_norm ?_
    refine w_ret ?_
    exact body_ret (vs := [(.int .i64 (IntKind.wrap .i64 ((IntKind.wrap .i64 ((IntKind.wrap .i64 (Int.tdiv time2 10080)) * week10)) + rest12)))]) _ (by kernel_rfl) rfl h

end Go.RM
