import Derived.Test.YtpjbnjgckbhohaaRmWp
/-
  Functions of the program as the abstract machine runs them, and what must be shown of a run: printed by RmPrint.
-/
namespace Go.RM
set_option linter.unusedVariables false
set_option maxRecDepth 4000
def rf_FPercentsFault (nFFault : Nat) : RFunc := ⟨1, 6, [.part 1 (some 2)],
 ((.seq (.ops [⟨.tomb 1 (.k (.agg [.int .i64 0, .int .i64 0])), none, (some 1), true⟩])
 ((.seq ((.seq (.ops [⟨.move (.var 0), none, none, true⟩, ⟨.len (.loc 0), none, none, true⟩, ⟨.bin .gtr .no (.loc 1) (.k (.int .i64 8)), none, (some 2), true⟩])
 (.cond (.var 2) ((.seq (.ops [⟨.callS nFFault [(.k (.int .i64 2)), (.k (.int .i64 (-1)))], none, none, true⟩, ⟨.upd 2 0 (.var 1) (.loc 0), none, (some 1), true⟩])
 (.ret))) (.skip))))
 ((.seq ((.seq (.ops [⟨.move (.k (.int .i64 0)), none, (some 3), true⟩])
 (.block 0 (.loop ((.seq ((.seq (.ops [⟨.move (.var 3), none, none, true⟩, ⟨.move (.var 0), none, none, true⟩, ⟨.len (.loc 1), none, none, true⟩, ⟨.bin .lss .no (.loc 0) (.loc 2), none, (some 4), true⟩])
 (.cond (.var 4) (.skip) (.exit 0))))
 ((.seq (.block 1 ((.seq (.ops [⟨.move (.var 0), none, none, true⟩, ⟨.move (.var 3), none, none, true⟩, ⟨.indexAddr 1 (.loc 0) (.loc 1), none, none, true⟩, ⟨.load none (.loc 2), none, none, true⟩, ⟨.bin .lss .no (.loc 3) (.k (.int .i64 0)), none, none, true⟩, ⟨.move (.loc 4), none, none, true⟩, ⟨.move (.var 0), none, none, true⟩, ⟨.move (.var 3), none, none, true⟩, ⟨.indexAddr 1 (.loc 6) (.loc 7), (some (5, false)), none, true⟩, ⟨.load none (.loc 8), (some (5, false)), none, true⟩, ⟨.bin .gtr .no (.loc 9) (.k (.int .i64 100)), (some (5, false)), none, true⟩, ⟨.pick (.loc 5) (.k (.bool true)) (.loc 10), none, (some 5), true⟩])
 (.cond (.var 5) ((.seq (.ops [⟨.move (.var 3), none, none, true⟩, ⟨.callS nFFault [(.k (.int .i64 3)), (.loc 0)], none, none, true⟩, ⟨.upd 2 0 (.var 1) (.loc 1), none, (some 1), true⟩])
 (.ret))) (.skip)))))
 (.ops [⟨.move (.var 3), none, none, true⟩, ⟨.bin .add .no (.loc 0) (.k (.int .i64 1)), none, none, true⟩, ⟨.move (.loc 1), none, (some 3), true⟩])))))))))
 ((.seq (.ops [⟨.callS nFFault [(.k (.int .i64 0)), (.k (.int .i64 0))], none, none, true⟩, ⟨.upd 2 0 (.var 1) (.loc 0), none, (some 1), true⟩])
 (.ret))))))))), none⟩
theorem v_FPercentsFault {F : Nat → Option RFunc} {me nFFault : Nat} (hF : F me = some (rf_FPercentsFault nFFault)) {fl : Nat} {H : Heap} {Q : AV → Heap → Prop} (l0 : AV)
  (h : ∀ (H1 : Heap), Dead1 H 1 H1 → ∃ len2 : Nat, lenA l0 = some len2 ∧ (((len2 : Int) > 8) → Ret F fl nFFault [(.int .i64 2), (.int .i64 (-1))] H1 (fun v6 H5 => ∃ (r3 : Int) (r4 : Int), v6 = (.agg [(.int .i64 r3), (.int .i64 r4)]) ∧ Q (.agg [(.int .i64 r3), (.int .i64 r4)]) H5)) ∧ (¬((len2 : Int) > 8) → ∃ (J7 : Nat → Int → Int → Int → Heap → Prop) (k8 : Nat), J7 k8 0 0 0 H1 ∧ (∀ (m9 : Nat) (v10 : Int) (v11 : Int) (i12 : Int) (H15 : Heap), J7 m9 v10 v11 i12 H15 → ∃ len16 : Nat, lenA l0 = some len16 ∧ ((i12 < (len16 : Int)) → ∃ (e17 : Int), getA H15 1 none l0 i12 0 = some (.int .i64 e17) ∧ ((e17 < 0) → Ret F fl nFFault [(.int .i64 3), (.int .i64 i12)] H15 (fun v29 H28 => ∃ (r26 : Int) (r27 : Int), v29 = (.agg [(.int .i64 r26), (.int .i64 r27)]) ∧ Q (.agg [(.int .i64 r26), (.int .i64 r27)]) H28)) ∧ (¬(e17 < 0) → ∃ (e19 : Int), getA H15 1 none l0 i12 0 = some (.int .i64 e19) ∧ ((e19 > 100) → Ret F fl nFFault [(.int .i64 3), (.int .i64 i12)] H15 (fun v24 H23 => ∃ (r21 : Int) (r22 : Int), v24 = (.agg [(.int .i64 r21), (.int .i64 r22)]) ∧ Q (.agg [(.int .i64 r21), (.int .i64 r22)]) H23)) ∧ (¬(e19 > 100) → ∃ m25 : Nat, m25 < m9 ∧ J7 m25 v10 v11 (IntKind.wrap .i64 (i12 + 1)) H15))) ∧ (¬(i12 < (len16 : Int)) → Ret F fl nFFault [(.int .i64 0), (.int .i64 0)] H15 (fun v33 H32 => ∃ (r30 : Int) (r31 : Int), v33 = (.agg [(.int .i64 r30), (.int .i64 r31)]) ∧ Q (.agg [(.int .i64 r30), (.int .i64 r31)]) H32))))) : Ret F fl me [l0] H Q := by
  refine ret_intro hF rfl ?_
  refine w_seq ?_
  refine w_run [1] ?_
  obtain ⟨H1, hb⟩ : ∃ H', Dead1 H 1 H' := ⟨_, ⟨rfl⟩⟩
  replace h := h H1 hb
  refine t_tomb true 1 (.agg [(.int .i64 0), (.int .i64 0)]) [(.int .i64 0), (.int .i64 0)] H1 H (by kernel_rfl) rfl hb ?_
  refine t_done [l0, (.agg [(.int .i64 0), (.int .i64 0)]), .undef, .undef, .undef, .undef] H1 (by kernel_rfl) ?_
  refine then_norm ?_
  refine w_seq ?_
  refine w_seq ?_
  refine w_run [0, 1, 0] ?_
  obtain ⟨len2, hl, h⟩ := h
  refine t_len true l0 len2 H1 (by kernel_rfl) hl ?_
  refine t_done [l0, (.agg [(.int .i64 0), (.int .i64 0)]), (.bool (decide ((len2 : Int) > 8))), .undef, .undef, .undef] H1 (by kernel_rfl) ?_
  refine then_norm ?_
  refine w_cond (t := (decide ((len2 : Int) > 8))) rfl (fun hc => ?_) (fun hc => ?_)
  · replace h := h.1 (is_dec.t hc)
    refine w_seq ?_
    refine w_run [1, 1] ?_
    refine t_call true nFFault [(.int .i64 2), (.int .i64 (-1))] H1 (by kernel_rfl) h ?_
    clear h
    rintro _ H5 ⟨r3, r4, rfl, h⟩
    refine t_upd true 2 0 [(.int .i64 0), (.int .i64 0)] (.agg [(.int .i64 r3), (.int .i64 r4)]) [(.int .i64 r3), (.int .i64 r4)] [(.int .i64 r3), (.int .i64 r4)] H5 (by kernel_rfl) rfl (all_c rfl (all_c rfl all_n)) ⟨rfl, Nat.le_of_ble_eq_true (by kernel_rfl), rfl⟩ ?_
    refine t_done [l0, (.agg [(.int .i64 r3), (.int .i64 r4)]), (.bool (decide ((len2 : Int) > 8))), .undef, .undef, .undef] H5 (by kernel_rfl) ?_
    refine then_norm ?_
    refine w_ret ?_
    refine then_ret ?_
    exact body_ret (vs := [(.agg [(.int .i64 r3), (.int .i64 r4)])]) _ (by kernel_rfl) rfl h
  · replace h := h.2 (is_dec.f hc)
    refine w_skip ?_
    refine then_norm ?_
    refine w_seq ?_
    refine w_seq ?_
    refine w_run [0] ?_
    refine t_done [l0, (.agg [(.int .i64 0), (.int .i64 0)]), (.bool (decide ((len2 : Int) > 8))), (.int .i64 0), .undef, .undef] H1 (by kernel_rfl) ?_
    refine then_norm ?_
    refine w_block ?_
    obtain ⟨J7, k8, h0, h⟩ := h
    refine w_loop (I := fun mI EI HI => ∃ (v10 : Int) (v11 : Int) (i12 : Int) (d13 : AV) (d14 : AV), EI = [l0, (.agg [(.int .i64 v10), (.int .i64 v11)]), (.bool (decide ((len2 : Int) > 8))), (.int .i64 i12), d13, d14] ∧ J7 mI v10 v11 i12 HI) ?_ k8 ⟨_, _, _, _, _, rfl, h0⟩
    clear h0
    rintro m9 EI H15 ⟨v10, v11, i12, d13, d14, rfl, hJ⟩
    replace h := h m9 v10 v11 i12 H15 hJ
    clear hJ
    refine w_seq ?_
    refine w_seq ?_
    refine w_run [0, 0, 1, 0] ?_
    obtain ⟨len16, hl, h⟩ := h
    refine t_len true l0 len16 H15 (by kernel_rfl) hl ?_
    refine t_done [l0, (.agg [(.int .i64 v10), (.int .i64 v11)]), (.bool (decide ((len2 : Int) > 8))), (.int .i64 i12), (.bool (decide (i12 < (len16 : Int)))), d14] H15 (by kernel_rfl) ?_
    refine then_norm ?_
    refine w_cond (t := (decide (i12 < (len16 : Int)))) rfl (fun hc => ?_) (fun hc => ?_)
    · replace h := h.1 (is_dec.t hc)
      refine w_skip ?_
      refine then_norm ?_
      refine w_seq ?_
      refine w_block ?_
      refine w_seq ?_
      refine w_run [0, 0, 1, 1, 0, 0, 0, 0, 3, 3, 2, 0] ?_
      obtain ⟨e17, hg18, h⟩ := h
      refine t_idxG true 1 l0 .i64 i12 H15 (by kernel_rfl) hg18 ?_
      refine t_loadG true none 1 l0 i12 0 (.int .i64 e17) H15 (by kernel_rfl) hg18 ?_
      refine t_gd (decide (e17 < 0)) false (by kernel_rfl) (fun hc => ?_) (fun hc => ?_)
      · replace h := h.2 (is_dec.f hc)
        obtain ⟨e19, hg20, h⟩ := h
        refine t_idxG true 1 l0 .i64 i12 H15 (by kernel_rfl) hg20 ?_
        refine t_gd false false (by kernel_rfl) (fun _ => ?_) (fun hn => by cases hn)
        refine t_loadG true none 1 l0 i12 0 (.int .i64 e19) H15 (by kernel_rfl) hg20 ?_
        refine t_gd false false (by kernel_rfl) (fun _ => ?_) (fun hn => by cases hn)
        refine t_done [l0, (.agg [(.int .i64 v10), (.int .i64 v11)]), (.bool (decide ((len2 : Int) > 8))), (.int .i64 i12), (.bool (decide (i12 < (len16 : Int)))), (.bool (decide (e19 > 100)))] H15 (by kernel_rfl) ?_
        refine then_norm ?_
        refine w_cond (t := (decide (e19 > 100))) rfl (fun hc => ?_) (fun hc => ?_)
        · replace h := h.1 (is_dec.t hc)
          refine w_seq ?_
          refine w_run [0, 1, 1] ?_
          refine t_call true nFFault [(.int .i64 3), (.int .i64 i12)] H15 (by kernel_rfl) h ?_
          clear h
          rintro _ H23 ⟨r21, r22, rfl, h⟩
          refine t_upd true 2 0 [(.int .i64 v10), (.int .i64 v11)] (.agg [(.int .i64 r21), (.int .i64 r22)]) [(.int .i64 r21), (.int .i64 r22)] [(.int .i64 r21), (.int .i64 r22)] H23 (by kernel_rfl) rfl (all_c rfl (all_c rfl all_n)) ⟨rfl, Nat.le_of_ble_eq_true (by kernel_rfl), rfl⟩ ?_
          refine t_done [l0, (.agg [(.int .i64 r21), (.int .i64 r22)]), (.bool (decide ((len2 : Int) > 8))), (.int .i64 i12), (.bool (decide (i12 < (len16 : Int)))), (.bool (decide (e19 > 100)))] H23 (by kernel_rfl) ?_
          refine then_norm ?_
          refine w_ret ?_
          refine block_ret ?_
          refine then_ret ?_
          refine loop_ret ?_
          refine block_ret ?_
          refine then_ret ?_
          exact body_ret (vs := [(.agg [(.int .i64 r21), (.int .i64 r22)])]) _ (by kernel_rfl) rfl h
        · replace h := h.2 (is_dec.f hc)
          refine w_skip ?_
          refine block_norm ?_
          refine then_norm ?_
          refine w_run [0, 0, 0] ?_
          refine t_done [l0, (.agg [(.int .i64 v10), (.int .i64 v11)]), (.bool (decide ((len2 : Int) > 8))), (.int .i64 (IntKind.wrap .i64 (i12 + 1))), (.bool (decide (i12 < (len16 : Int)))), (.bool (decide (e19 > 100)))] H15 (by kernel_rfl) ?_
          obtain ⟨m', hm, h⟩ := h
          refine loop_norm ⟨m', hm, _, _, _, _, _, rfl, h⟩
      · replace h := h.1 (is_dec.t hc)
        refine t_gd true false (by kernel_rfl) (fun hn => by cases hn) (fun _ => ?_)
        refine t_gd true false (by kernel_rfl) (fun hn => by cases hn) (fun _ => ?_)
        refine t_done [l0, (.agg [(.int .i64 v10), (.int .i64 v11)]), (.bool (decide ((len2 : Int) > 8))), (.int .i64 i12), (.bool (decide (i12 < (len16 : Int)))), (.bool true)] H15 (by kernel_rfl) ?_
        refine then_norm ?_
        refine w_cond (t := true) rfl (fun _ => ?_) (fun hc => by cases hc)
        refine w_seq ?_
        refine w_run [0, 1, 1] ?_
        refine t_call true nFFault [(.int .i64 3), (.int .i64 i12)] H15 (by kernel_rfl) h ?_
        clear h
        rintro _ H28 ⟨r26, r27, rfl, h⟩
        refine t_upd true 2 0 [(.int .i64 v10), (.int .i64 v11)] (.agg [(.int .i64 r26), (.int .i64 r27)]) [(.int .i64 r26), (.int .i64 r27)] [(.int .i64 r26), (.int .i64 r27)] H28 (by kernel_rfl) rfl (all_c rfl (all_c rfl all_n)) ⟨rfl, Nat.le_of_ble_eq_true (by kernel_rfl), rfl⟩ ?_
        refine t_done [l0, (.agg [(.int .i64 r26), (.int .i64 r27)]), (.bool (decide ((len2 : Int) > 8))), (.int .i64 i12), (.bool (decide (i12 < (len16 : Int)))), (.bool true)] H28 (by kernel_rfl) ?_
        refine then_norm ?_
        refine w_ret ?_
        refine block_ret ?_
        refine then_ret ?_
        refine loop_ret ?_
        refine block_ret ?_
        refine then_ret ?_
        exact body_ret (vs := [(.agg [(.int .i64 r26), (.int .i64 r27)])]) _ (by kernel_rfl) rfl h
    · replace h := h.2 (is_dec.f hc)
      refine w_exit ?_
      refine then_exit ?_
      refine loop_exit ?_
      refine block_exit ?_
      refine then_norm ?_
      refine w_seq ?_
      refine w_run [1, 1] ?_
      refine t_call true nFFault [(.int .i64 0), (.int .i64 0)] H15 (by kernel_rfl) h ?_
      clear h
      rintro _ H32 ⟨r30, r31, rfl, h⟩
      refine t_upd true 2 0 [(.int .i64 v10), (.int .i64 v11)] (.agg [(.int .i64 r30), (.int .i64 r31)]) [(.int .i64 r30), (.int .i64 r31)] [(.int .i64 r30), (.int .i64 r31)] H32 (by kernel_rfl) rfl (all_c rfl (all_c rfl all_n)) ⟨rfl, Nat.le_of_ble_eq_true (by kernel_rfl), rfl⟩ ?_
      refine t_done [l0, (.agg [(.int .i64 r30), (.int .i64 r31)]), (.bool (decide ((len2 : Int) > 8))), (.int .i64 i12), (.bool (decide (i12 < (len16 : Int)))), d14] H32 (by kernel_rfl) ?_
      refine then_norm ?_
      refine w_ret ?_
      exact body_ret (vs := [(.agg [(.int .i64 r30), (.int .i64 r31)])]) _ (by kernel_rfl) rfl h

def rf_FRunCode : RFunc := ⟨2, 10, [.var 2],
 ((.seq (.ops [⟨.tomb 1 (.var 1), none, (some 3), true⟩, ⟨.move (.k (.int .i64 0)), none, (some 2), true⟩])
 ((.seq ((.seq (.ops [⟨.field 0 none (.var 3), none, none, true⟩, ⟨.field 0 none (.var 3), none, none, true⟩, ⟨.bin .lss .no (.loc 1) (.k (.int .i64 0)), none, none, true⟩, ⟨.move (.loc 2), none, none, true⟩, ⟨.field 0 none (.var 3), none, none, true⟩, ⟨.field 0 none (.var 3), none, none, true⟩, ⟨.move (.var 0), none, none, true⟩, ⟨.bin .geq .no (.loc 5) (.loc 6), none, none, true⟩, ⟨.pick (.loc 3) (.k (.bool true)) (.loc 7), none, (some 4), true⟩])
 (.cond (.var 4) ((.seq (.ops [⟨.move (.k (.int .i64 3)), none, (some 2), true⟩])
 (.ret))) (.skip))))
 ((.seq (.ops [⟨.move (.k (.int .i64 (-1))), none, (some 8), true⟩])
 ((.seq ((.seq (.ops [⟨.move (.k (.int .i64 0)), none, (some 5), true⟩])
 (.block 0 (.loop ((.seq ((.seq (.ops [⟨.move (.var 5), none, none, true⟩, ⟨.field 0 none (.var 3), none, none, true⟩, ⟨.field 1 none (.var 3), none, none, true⟩, ⟨.len (.loc 2), none, none, true⟩, ⟨.bin .lss .no (.loc 0) (.loc 3), none, (some 6), true⟩])
 (.cond (.var 6) (.skip) (.exit 0))))
 ((.seq (.block 1 ((.seq ((.seq (.ops [⟨.field 0 none (.var 3), none, none, true⟩, ⟨.field 1 none (.var 3), none, none, true⟩, ⟨.move (.var 5), none, none, false⟩, ⟨.indexAddr 1 (.loc 1) (.loc 2), none, none, true⟩, ⟨.load none (.loc 3), none, none, true⟩, ⟨.bin .lss .no (.loc 4) (.k (.int .i64 0)), none, none, true⟩, ⟨.move (.loc 5), none, none, true⟩, ⟨.field 0 none (.var 3), none, none, false⟩, ⟨.field 1 none (.var 3), none, none, false⟩, ⟨.move (.var 5), none, none, false⟩, ⟨.indexAddr 1 (.loc 8) (.loc 9), (some (6, false)), none, false⟩, ⟨.load none (.loc 10), (some (6, false)), none, false⟩, ⟨.field 0 none (.var 3), none, none, false⟩, ⟨.field 0 none (.var 3), none, none, false⟩, ⟨.bin .geq .no (.loc 11) (.loc 13), (some (6, false)), none, true⟩, ⟨.pick (.loc 6) (.k (.bool true)) (.loc 14), none, (some 7), true⟩])
 (.cond (.var 7) ((.seq (.ops [⟨.move (.k (.int .i64 3)), none, (some 2), true⟩])
 (.ret))) (.skip))))
 ((.seq ((.seq (.ops [⟨.field 0 none (.var 3), none, none, true⟩, ⟨.field 1 none (.var 3), none, none, true⟩, ⟨.move (.var 5), none, none, true⟩, ⟨.indexAddr 1 (.loc 1) (.loc 2), none, none, true⟩, ⟨.load none (.loc 3), none, none, true⟩, ⟨.move (.var 8), none, none, true⟩, ⟨.bin .leq .no (.loc 4) (.loc 5), none, (some 9), true⟩])
 (.cond (.var 9) ((.seq (.ops [⟨.move (.k (.int .i64 5)), none, (some 2), true⟩])
 (.ret))) (.skip))))
 (.ops [⟨.field 0 none (.var 3), none, none, true⟩, ⟨.field 1 none (.var 3), none, none, true⟩, ⟨.move (.var 5), none, none, true⟩, ⟨.indexAddr 1 (.loc 1) (.loc 2), none, none, true⟩, ⟨.load none (.loc 3), none, none, true⟩, ⟨.move (.loc 4), none, (some 8), true⟩]))))))
 (.ops [⟨.move (.var 5), none, none, true⟩, ⟨.bin .add .no (.loc 0) (.k (.int .i64 1)), none, none, true⟩, ⟨.move (.loc 1), none, (some 5), true⟩])))))))))
 ((.seq (.ops [⟨.move (.k (.int .i64 0)), none, (some 2), true⟩])
 (.ret))))))))))), none⟩
theorem v_FRunCode {F : Nat → Option RFunc} {me : Nat} (hF : F me = some (rf_FRunCode )) {fl : Nat} {H : Heap} {Q : AV → Heap → Prop} (n0 : Int) (r1 : Int) (r2 : AV)
  (h : ∀ (H3 : Heap), Dead1 H 1 H3 → ((((r1 < 0) ∨ (r1 ≥ n0))) → Q (.int .i64 3) H3) ∧ (¬(((r1 < 0) ∨ (r1 ≥ n0))) → ∃ (J4 : Nat → Int → Int → Prop) (k5 : Nat), J4 k5 0 (-1) ∧ (∀ (m6 : Nat) (i8 : Int) (last11 : Int), J4 m6 i8 last11 → ∃ len13 : Nat, lenA r2 = some len13 ∧ ((i8 < (len13 : Int)) → ∃ (e14 : Int), getA H3 1 none r2 i8 0 = some (.int .i64 e14) ∧ ((e14 < 0) → Q (.int .i64 3) H3) ∧ (¬(e14 < 0) → ∃ (e16 : Int), getA H3 1 none r2 i8 0 = some (.int .i64 e16) ∧ ((e16 ≥ r1) → Q (.int .i64 3) H3) ∧ (¬(e16 ≥ r1) → ∃ (e18 : Int), getA H3 1 none r2 i8 0 = some (.int .i64 e18) ∧ ((e18 ≤ last11) → Q (.int .i64 5) H3) ∧ (¬(e18 ≤ last11) → ∃ (e20 : Int), getA H3 1 none r2 i8 0 = some (.int .i64 e20) ∧ ∃ m22 : Nat, m22 < m6 ∧ J4 m22 (IntKind.wrap .i64 (i8 + 1)) e20)))) ∧ (¬(i8 < (len13 : Int)) → Q (.int .i64 0) H3)))) : Ret F fl me [(.int .i64 n0), (.agg [(.int .i64 r1), r2])] H Q := by
  refine ret_intro hF rfl ?_
  refine w_seq ?_
  refine w_run [1, 0] ?_
  obtain ⟨H3, hb⟩ : ∃ H', Dead1 H 1 H' := ⟨_, ⟨rfl⟩⟩
  replace h := h H3 hb
  refine t_tomb true 1 (.agg [(.int .i64 r1), r2]) [(.int .i64 r1), r2] H3 H (by kernel_rfl) rfl hb ?_
  refine t_done [(.int .i64 n0), (.agg [(.int .i64 r1), r2]), (.int .i64 0), (.agg [(.int .i64 r1), r2]), .undef, .undef, .undef, .undef, .undef, .undef] H3 (by kernel_rfl) ?_
  refine then_norm ?_
  refine w_seq ?_
  refine w_seq ?_
  refine w_run [0, 0, 0, 0, 0, 0, 0, 0, 0] ?_
  refine t_done [(.int .i64 n0), (.agg [(.int .i64 r1), r2]), (.int .i64 0), (.agg [(.int .i64 r1), r2]), (.bool ((decide (r1 < 0)) || (decide (r1 ≥ n0)))), .undef, .undef, .undef, .undef, .undef] H3 (by kernel_rfl) ?_
  refine then_norm ?_
  refine w_cond (t := ((decide (r1 < 0)) || (decide (r1 ≥ n0)))) rfl (fun hc => ?_) (fun hc => ?_)
  · replace h := h.1 ((is_or is_dec is_dec).t hc)
    refine w_seq ?_
    refine w_run [0] ?_
    refine t_done [(.int .i64 n0), (.agg [(.int .i64 r1), r2]), (.int .i64 3), (.agg [(.int .i64 r1), r2]), (.bool ((decide (r1 < 0)) || (decide (r1 ≥ n0)))), .undef, .undef, .undef, .undef, .undef] H3 (by kernel_rfl) ?_
    refine then_norm ?_
    refine w_ret ?_
    refine then_ret ?_
    exact body_ret (vs := [(.int .i64 3)]) _ (by kernel_rfl) rfl h
  · replace h := h.2 ((is_or is_dec is_dec).f hc)
    refine w_skip ?_
    refine then_norm ?_
    refine w_seq ?_
    refine w_run [0] ?_
    refine t_done [(.int .i64 n0), (.agg [(.int .i64 r1), r2]), (.int .i64 0), (.agg [(.int .i64 r1), r2]), (.bool ((decide (r1 < 0)) || (decide (r1 ≥ n0)))), .undef, .undef, .undef, (.int .i64 (-1)), .undef] H3 (by kernel_rfl) ?_
    refine then_norm ?_
    refine w_seq ?_
    refine w_seq ?_
    refine w_run [0] ?_
    refine t_done [(.int .i64 n0), (.agg [(.int .i64 r1), r2]), (.int .i64 0), (.agg [(.int .i64 r1), r2]), (.bool ((decide (r1 < 0)) || (decide (r1 ≥ n0)))), (.int .i64 0), .undef, .undef, (.int .i64 (-1)), .undef] H3 (by kernel_rfl) ?_
    refine then_norm ?_
    refine w_block ?_
    obtain ⟨J4, k5, h0, h⟩ := h
    refine w_loop (I := fun mI EI HI => ∃ (d7 : AV) (i8 : Int) (d9 : AV) (d10 : AV) (last11 : Int) (d12 : AV), EI = [(.int .i64 n0), (.agg [(.int .i64 r1), r2]), d7, (.agg [(.int .i64 r1), r2]), (.bool ((decide (r1 < 0)) || (decide (r1 ≥ n0)))), (.int .i64 i8), d9, d10, (.int .i64 last11), d12] ∧ H3 = HI ∧ J4 mI i8 last11) ?_ k5 ⟨_, _, _, _, _, _, rfl, rfl, h0⟩
    clear h0
    rintro m6 EI HI ⟨d7, i8, d9, d10, last11, d12, rfl, rfl, hJ⟩
    replace h := h m6 i8 last11  hJ
    clear hJ
    refine w_seq ?_
    refine w_seq ?_
    refine w_run [0, 0, 0, 1, 0] ?_
    obtain ⟨len13, hl, h⟩ := h
    refine t_len true r2 len13 H3 (by kernel_rfl) hl ?_
    refine t_done [(.int .i64 n0), (.agg [(.int .i64 r1), r2]), d7, (.agg [(.int .i64 r1), r2]), (.bool ((decide (r1 < 0)) || (decide (r1 ≥ n0)))), (.int .i64 i8), (.bool (decide (i8 < (len13 : Int)))), d10, (.int .i64 last11), d12] H3 (by kernel_rfl) ?_
    refine then_norm ?_
    refine w_cond (t := (decide (i8 < (len13 : Int)))) rfl (fun hc => ?_) (fun hc => ?_)
    · replace h := h.1 (is_dec.t hc)
      refine w_skip ?_
      refine then_norm ?_
      refine w_seq ?_
      refine w_block ?_
      refine w_seq ?_
      refine w_seq ?_
      refine w_run [0, 0, 0, 1, 1, 0, 0, 0, 0, 0, 3, 3, 0, 0, 2, 0] ?_
      obtain ⟨e14, hg15, h⟩ := h
      refine t_idxG true 1 r2 .i64 i8 H3 (by kernel_rfl) hg15 ?_
      refine t_loadG true none 1 r2 i8 0 (.int .i64 e14) H3 (by kernel_rfl) hg15 ?_
      refine t_gd (decide (e14 < 0)) false (by kernel_rfl) (fun hc => ?_) (fun hc => ?_)
      · replace h := h.2 (is_dec.f hc)
        obtain ⟨e16, hg17, h⟩ := h
        refine t_idxG false 1 r2 .i64 i8 H3 (by kernel_rfl) hg17 ?_
        refine t_gd false false (by kernel_rfl) (fun _ => ?_) (fun hn => by cases hn)
        refine t_loadG false none 1 r2 i8 0 (.int .i64 e16) H3 (by kernel_rfl) hg17 ?_
        refine t_gd false false (by kernel_rfl) (fun _ => ?_) (fun hn => by cases hn)
        refine t_done [(.int .i64 n0), (.agg [(.int .i64 r1), r2]), d7, (.agg [(.int .i64 r1), r2]), (.bool ((decide (r1 < 0)) || (decide (r1 ≥ n0)))), (.int .i64 i8), (.bool (decide (i8 < (len13 : Int)))), (.bool (decide (e16 ≥ r1))), (.int .i64 last11), d12] H3 (by kernel_rfl) ?_
        refine then_norm ?_
        refine w_cond (t := (decide (e16 ≥ r1))) rfl (fun hc => ?_) (fun hc => ?_)
        · replace h := h.1 (is_dec.t hc)
          refine w_seq ?_
          refine w_run [0] ?_
          refine t_done [(.int .i64 n0), (.agg [(.int .i64 r1), r2]), (.int .i64 3), (.agg [(.int .i64 r1), r2]), (.bool ((decide (r1 < 0)) || (decide (r1 ≥ n0)))), (.int .i64 i8), (.bool (decide (i8 < (len13 : Int)))), (.bool (decide (e16 ≥ r1))), (.int .i64 last11), d12] H3 (by kernel_rfl) ?_
          refine then_norm ?_
          refine w_ret ?_
          refine then_ret ?_
          refine block_ret ?_
          refine then_ret ?_
          refine loop_ret ?_
          refine block_ret ?_
          refine then_ret ?_
          exact body_ret (vs := [(.int .i64 3)]) _ (by kernel_rfl) rfl h
        · replace h := h.2 (is_dec.f hc)
          refine w_skip ?_
          refine then_norm ?_
          refine w_seq ?_
          refine w_seq ?_
          refine w_run [0, 0, 0, 1, 1, 0, 0] ?_
          obtain ⟨e18, hg19, h⟩ := h
          refine t_idxG true 1 r2 .i64 i8 H3 (by kernel_rfl) hg19 ?_
          refine t_loadG true none 1 r2 i8 0 (.int .i64 e18) H3 (by kernel_rfl) hg19 ?_
          refine t_done [(.int .i64 n0), (.agg [(.int .i64 r1), r2]), d7, (.agg [(.int .i64 r1), r2]), (.bool ((decide (r1 < 0)) || (decide (r1 ≥ n0)))), (.int .i64 i8), (.bool (decide (i8 < (len13 : Int)))), (.bool (decide (e16 ≥ r1))), (.int .i64 last11), (.bool (decide (e18 ≤ last11)))] H3 (by kernel_rfl) ?_
          refine then_norm ?_
          refine w_cond (t := (decide (e18 ≤ last11))) rfl (fun hc => ?_) (fun hc => ?_)
          · replace h := h.1 (is_dec.t hc)
            refine w_seq ?_
            refine w_run [0] ?_
            refine t_done [(.int .i64 n0), (.agg [(.int .i64 r1), r2]), (.int .i64 5), (.agg [(.int .i64 r1), r2]), (.bool ((decide (r1 < 0)) || (decide (r1 ≥ n0)))), (.int .i64 i8), (.bool (decide (i8 < (len13 : Int)))), (.bool (decide (e16 ≥ r1))), (.int .i64 last11), (.bool (decide (e18 ≤ last11)))] H3 (by kernel_rfl) ?_
            refine then_norm ?_
            refine w_ret ?_
            refine then_ret ?_
            refine block_ret ?_
            refine then_ret ?_
            refine loop_ret ?_
            refine block_ret ?_
            refine then_ret ?_
            exact body_ret (vs := [(.int .i64 5)]) _ (by kernel_rfl) rfl h
          · replace h := h.2 (is_dec.f hc)
            refine w_skip ?_
            refine then_norm ?_
            refine w_run [0, 0, 0, 1, 1, 0] ?_
            obtain ⟨e20, hg21, h⟩ := h
            refine t_idxG true 1 r2 .i64 i8 H3 (by kernel_rfl) hg21 ?_
            refine t_loadG true none 1 r2 i8 0 (.int .i64 e20) H3 (by kernel_rfl) hg21 ?_
            refine t_done [(.int .i64 n0), (.agg [(.int .i64 r1), r2]), d7, (.agg [(.int .i64 r1), r2]), (.bool ((decide (r1 < 0)) || (decide (r1 ≥ n0)))), (.int .i64 i8), (.bool (decide (i8 < (len13 : Int)))), (.bool (decide (e16 ≥ r1))), (.int .i64 e20), (.bool (decide (e18 ≤ last11)))] H3 (by kernel_rfl) ?_
            refine block_norm ?_
            refine then_norm ?_
            refine w_run [0, 0, 0] ?_
            refine t_done [(.int .i64 n0), (.agg [(.int .i64 r1), r2]), d7, (.agg [(.int .i64 r1), r2]), (.bool ((decide (r1 < 0)) || (decide (r1 ≥ n0)))), (.int .i64 (IntKind.wrap .i64 (i8 + 1))), (.bool (decide (i8 < (len13 : Int)))), (.bool (decide (e16 ≥ r1))), (.int .i64 e20), (.bool (decide (e18 ≤ last11)))] H3 (by kernel_rfl) ?_
            obtain ⟨m', hm, h⟩ := h
            refine loop_norm ⟨m', hm, _, _, _, _, _, _, rfl, rfl, h⟩
      · replace h := h.1 (is_dec.t hc)
        refine t_gd true false (by kernel_rfl) (fun hn => by cases hn) (fun _ => ?_)
        refine t_gd true false (by kernel_rfl) (fun hn => by cases hn) (fun _ => ?_)
        refine t_done [(.int .i64 n0), (.agg [(.int .i64 r1), r2]), d7, (.agg [(.int .i64 r1), r2]), (.bool ((decide (r1 < 0)) || (decide (r1 ≥ n0)))), (.int .i64 i8), (.bool (decide (i8 < (len13 : Int)))), (.bool true), (.int .i64 last11), d12] H3 (by kernel_rfl) ?_
        refine then_norm ?_
        refine w_cond (t := true) rfl (fun _ => ?_) (fun hc => by cases hc)
        refine w_seq ?_
        refine w_run [0] ?_
        refine t_done [(.int .i64 n0), (.agg [(.int .i64 r1), r2]), (.int .i64 3), (.agg [(.int .i64 r1), r2]), (.bool ((decide (r1 < 0)) || (decide (r1 ≥ n0)))), (.int .i64 i8), (.bool (decide (i8 < (len13 : Int)))), (.bool true), (.int .i64 last11), d12] H3 (by kernel_rfl) ?_
        refine then_norm ?_
        refine w_ret ?_
        refine then_ret ?_
        refine block_ret ?_
        refine then_ret ?_
        refine loop_ret ?_
        refine block_ret ?_
        refine then_ret ?_
        exact body_ret (vs := [(.int .i64 3)]) _ (by kernel_rfl) rfl h
    · replace h := h.2 (is_dec.f hc)
      refine w_exit ?_
      refine then_exit ?_
      refine loop_exit ?_
      refine block_exit ?_
      refine then_norm ?_
      refine w_seq ?_
      refine w_run [0] ?_
      refine t_done [(.int .i64 n0), (.agg [(.int .i64 r1), r2]), (.int .i64 0), (.agg [(.int .i64 r1), r2]), (.bool ((decide (r1 < 0)) || (decide (r1 ≥ n0)))), (.int .i64 i8), (.bool (decide (i8 < (len13 : Int)))), d10, (.int .i64 last11), d12] H3 (by kernel_rfl) ?_
      refine then_norm ?_
      refine w_ret ?_
      exact body_ret (vs := [(.int .i64 0)]) _ (by kernel_rfl) rfl h

def rf_FChance (nFChance nFHas : Nat) : RFunc := ⟨2, 9, [.var 2],
 ((.seq (.ops [⟨.tomb 1 (.var 1), none, (some 4), true⟩, ⟨.move (.k (.int .i64 0)), none, (some 2), true⟩])
 ((.seq ((.seq (.ops [⟨.move (.var 0), none, none, true⟩, ⟨.len (.loc 0), none, none, true⟩, ⟨.bin .eql .no (.loc 1) (.k (.int .i64 0)), none, (some 3), true⟩])
 (.cond (.var 3) ((.seq (.ops [⟨.move (.k (.int .i64 1)), none, (some 2), true⟩])
 (.ret))) (.skip))))
 ((.seq (.ops [⟨.move (.var 0), none, none, true⟩, ⟨.len (.loc 0), none, none, true⟩, ⟨.bin .sub .no (.loc 1) (.k (.int .i64 1)), none, none, true⟩, ⟨.move (.loc 2), none, (some 5), true⟩])
 ((.seq (.ops [⟨.field 0 none (.var 4), none, none, true⟩, ⟨.field 0 none (.var 4), none, none, true⟩, ⟨.move (.var 5), none, none, true⟩, ⟨.min (.loc 1) [(.loc 2)], none, none, true⟩, ⟨.field 0 none (.var 4), none, none, true⟩, ⟨.field 1 none (.var 4), none, none, true⟩, ⟨.build [.int .i64 0, .empty] [(0, 1, (.loc 3)), (1, 1, (.loc 5))], none, none, true⟩, ⟨.tomb 1 (.k (.agg [.int .i64 0, .empty])), none, (some 7), true⟩, ⟨.upd 2 0 (.loc 7) (.loc 6), none, (some 7), true⟩])
 ((.seq ((.seq (.ops [⟨.move (.var 5), none, none, true⟩, ⟨.field 0 none (.var 4), none, none, true⟩, ⟨.field 0 none (.var 4), none, none, true⟩, ⟨.bin .geq .no (.loc 0) (.loc 2), none, (some 6), true⟩])
 (.cond (.var 6) ((.seq (.ops [⟨.move (.var 0), none, none, false⟩, ⟨.move (.var 5), none, none, false⟩, ⟨.slice 1 (.loc 0) none (some (.loc 1)) none, none, none, false⟩, ⟨.field 0 (some 2) (.var 7), none, none, true⟩, ⟨.callS nFChance [(.loc 2), (.loc 3)], none, none, true⟩, ⟨.bin .mul .no (.k (.int .i64 100)) (.loc 4), none, none, true⟩, ⟨.move (.loc 5), none, (some 2), true⟩])
 (.ret))) (.skip))))
 ((.seq ((.seq (.ops [⟨.field 0 none (.var 4), none, none, true⟩, ⟨.field 1 none (.var 4), none, none, true⟩, ⟨.move (.var 5), none, none, true⟩, ⟨.callS nFHas [(.loc 1), (.loc 2)], none, (some 8), true⟩])
 (.cond (.var 8) ((.seq (.ops [⟨.move (.var 0), none, none, false⟩, ⟨.move (.var 5), none, none, false⟩, ⟨.indexAddr 1 (.loc 0) (.loc 1), none, none, false⟩, ⟨.load none (.loc 2), none, none, false⟩, ⟨.move (.var 0), none, none, false⟩, ⟨.move (.var 5), none, none, false⟩, ⟨.slice 1 (.loc 4) none (some (.loc 5)) none, none, none, false⟩, ⟨.field 0 (some 2) (.var 7), none, none, false⟩, ⟨.callS nFChance [(.loc 6), (.loc 7)], none, none, false⟩, ⟨.bin .mul .no (.loc 3) (.loc 8), none, none, true⟩, ⟨.move (.loc 9), none, (some 2), true⟩])
 (.ret))) (.skip))))
 ((.seq (.ops [⟨.move (.var 0), none, none, false⟩, ⟨.move (.var 5), none, none, false⟩, ⟨.indexAddr 1 (.loc 0) (.loc 1), none, none, false⟩, ⟨.load none (.loc 2), none, none, false⟩, ⟨.bin .sub .no (.k (.int .i64 100)) (.loc 3), none, none, false⟩, ⟨.move (.var 0), none, none, false⟩, ⟨.move (.var 5), none, none, false⟩, ⟨.slice 1 (.loc 5) none (some (.loc 6)) none, none, none, false⟩, ⟨.field 0 (some 2) (.var 7), none, none, false⟩, ⟨.callS nFChance [(.loc 7), (.loc 8)], none, none, false⟩, ⟨.bin .mul .no (.loc 4) (.loc 9), none, none, true⟩, ⟨.move (.loc 10), none, (some 2), true⟩])
 (.ret))))))))))))))), none⟩
theorem v_FChance {F : Nat → Option RFunc} {me nFChance nFHas : Nat} (hF : F me = some (rf_FChance nFChance nFHas)) {fl : Nat} {H : Heap} {Q : AV → Heap → Prop} (l0 : AV) (r1 : Int) (r2 : AV)
  (h : ∀ (H3 : Heap), Dead1 H 1 H3 → ∃ len4 : Nat, lenA l0 = some len4 ∧ (((len4 : Int) = 0) → Q (.int .i64 1) H3) ∧ (¬((len4 : Int) = 0) → ∃ len5 : Nat, lenA l0 = some len5 ∧ Scal r2 ∧ ∀ (H7 : Heap), Dead1 H3 1 H7 → (((IntKind.wrap .i64 ((len5 : Int) - 1)) ≥ r1) → ∃ s8 : AV, rslice H7 1 l0 none (some (.int .i64 (IntKind.wrap .i64 ((len5 : Int) - 1)))) none = some s8 ∧ Ret F fl nFChance [s8, (.agg [(.int .i64 (imin r1 (IntKind.wrap .i64 ((len5 : Int) - 1)))), r2])] H7 (fun v11 H10 => ∃ (r9 : Int), v11 = (.int .i64 r9) ∧ Q (.int .i64 (IntKind.wrap .i64 (100 * r9))) H10)) ∧ (¬((IntKind.wrap .i64 ((len5 : Int) - 1)) ≥ r1) → Ret F fl nFHas [r2, (.int .i64 (IntKind.wrap .i64 ((len5 : Int) - 1)))] H7 (fun v14 H13 => ∃ (r12 : Bool), v14 = (.bool r12) ∧ ((r12 = true) → ∃ (e15 : Int), getA H13 1 none l0 (IntKind.wrap .i64 ((len5 : Int) - 1)) 0 = some (.int .i64 e15) ∧ ∃ s17 : AV, rslice H13 1 l0 none (some (.int .i64 (IntKind.wrap .i64 ((len5 : Int) - 1)))) none = some s17 ∧ Ret F H13.length nFChance [s17, (.agg [(.int .i64 (imin r1 (IntKind.wrap .i64 ((len5 : Int) - 1)))), r2])] H13 (fun v20 H19 => ∃ (r18 : Int), v20 = (.int .i64 r18) ∧ Q (.int .i64 (IntKind.wrap .i64 (e15 * r18))) H19)) ∧ (¬(r12 = true) → ∃ (e21 : Int), getA H13 1 none l0 (IntKind.wrap .i64 ((len5 : Int) - 1)) 0 = some (.int .i64 e21) ∧ ∃ s23 : AV, rslice H13 1 l0 none (some (.int .i64 (IntKind.wrap .i64 ((len5 : Int) - 1)))) none = some s23 ∧ Ret F H13.length nFChance [s23, (.agg [(.int .i64 (imin r1 (IntKind.wrap .i64 ((len5 : Int) - 1)))), r2])] H13 (fun v26 H25 => ∃ (r24 : Int), v26 = (.int .i64 r24) ∧ Q (.int .i64 (IntKind.wrap .i64 ((IntKind.wrap .i64 (100 - e21)) * r24))) H25)))))) : Ret F fl me [l0, (.agg [(.int .i64 r1), r2])] H Q := by
  refine ret_intro hF rfl ?_
  refine w_seq ?_
  refine w_run [1, 0] ?_
  obtain ⟨H3, hb⟩ : ∃ H', Dead1 H 1 H' := ⟨_, ⟨rfl⟩⟩
  replace h := h H3 hb
  refine t_tomb true 1 (.agg [(.int .i64 r1), r2]) [(.int .i64 r1), r2] H3 H (by kernel_rfl) rfl hb ?_
  refine t_done [l0, (.agg [(.int .i64 r1), r2]), (.int .i64 0), .undef, (.agg [(.int .i64 r1), r2]), .undef, .undef, .undef, .undef] H3 (by kernel_rfl) ?_
  refine then_norm ?_
  refine w_seq ?_
  refine w_seq ?_
  refine w_run [0, 1, 0] ?_
  obtain ⟨len4, hl, h⟩ := h
  refine t_len true l0 len4 H3 (by kernel_rfl) hl ?_
  refine t_done [l0, (.agg [(.int .i64 r1), r2]), (.int .i64 0), (.bool (((len4 : Int)) == 0)), (.agg [(.int .i64 r1), r2]), .undef, .undef, .undef, .undef] H3 (by kernel_rfl) ?_
  refine then_norm ?_
  refine w_cond (t := (((len4 : Int)) == 0)) rfl (fun hc => ?_) (fun hc => ?_)
  · replace h := h.1 (is_eq.t hc)
    refine w_seq ?_
    refine w_run [0] ?_
    refine t_done [l0, (.agg [(.int .i64 r1), r2]), (.int .i64 1), (.bool (((len4 : Int)) == 0)), (.agg [(.int .i64 r1), r2]), .undef, .undef, .undef, .undef] H3 (by kernel_rfl) ?_
    refine then_norm ?_
    refine w_ret ?_
    refine then_ret ?_
    exact body_ret (vs := [(.int .i64 1)]) _ (by kernel_rfl) rfl h
  · replace h := h.2 (is_eq.f hc)
    refine w_skip ?_
    refine then_norm ?_
    refine w_seq ?_
    refine w_run [0, 1, 0, 0] ?_
    obtain ⟨len5, hl, h⟩ := h
    refine t_len true l0 len5 H3 (by kernel_rfl) hl ?_
    refine t_done [l0, (.agg [(.int .i64 r1), r2]), (.int .i64 0), (.bool (((len4 : Int)) == 0)), (.agg [(.int .i64 r1), r2]), (.int .i64 (IntKind.wrap .i64 ((len5 : Int) - 1))), .undef, .undef, .undef] H3 (by kernel_rfl) ?_
    refine then_norm ?_
    refine w_seq ?_
    refine w_run [0, 0, 0, 0, 0, 0, 1, 1, 1] ?_
    obtain ⟨hs6, h⟩ := h
    refine t_build true [(.int .i64 0), .empty] [(0, 1, .loc 0), (1, 1, .loc 1)] [(.int .i64 (imin r1 (IntKind.wrap .i64 ((len5 : Int) - 1)))), r2] [(.int .i64 (imin r1 (IntKind.wrap .i64 ((len5 : Int) - 1)))), r2] H3 (by kernel_rfl) (fill_c (vs := [(.int .i64 (imin r1 (IntKind.wrap .i64 ((len5 : Int) - 1))))]) (size := 1) rfl (by kernel_rfl) (by kernel_rfl) (fill_c (vs := [r2]) (size := 1) hs6.1 (by kernel_rfl) (by kernel_rfl) (by kernel_rfl))) ?_
    obtain ⟨H7, hb⟩ : ∃ H', Dead1 H3 1 H' := ⟨_, ⟨rfl⟩⟩
    replace h := h H7 hb
    refine t_tomb true 1 (.agg [(.int .i64 0), .empty]) [(.int .i64 0), .empty] H7 H3 (by kernel_rfl) rfl hb ?_
    refine t_upd true 2 0 [(.int .i64 0), .empty] (.agg [(.int .i64 (imin r1 (IntKind.wrap .i64 ((len5 : Int) - 1)))), r2]) [(.int .i64 (imin r1 (IntKind.wrap .i64 ((len5 : Int) - 1)))), r2] [(.int .i64 (imin r1 (IntKind.wrap .i64 ((len5 : Int) - 1)))), r2] H7 (by kernel_rfl) rfl (all_c rfl (all_c hs6.2 all_n)) ⟨rfl, Nat.le_of_ble_eq_true (by kernel_rfl), rfl⟩ ?_
    refine t_done [l0, (.agg [(.int .i64 r1), r2]), (.int .i64 0), (.bool (((len4 : Int)) == 0)), (.agg [(.int .i64 r1), r2]), (.int .i64 (IntKind.wrap .i64 ((len5 : Int) - 1))), .undef, (.agg [(.int .i64 (imin r1 (IntKind.wrap .i64 ((len5 : Int) - 1)))), r2]), .undef] H7 (by kernel_rfl) ?_
    refine then_norm ?_
    refine w_seq ?_
    refine w_seq ?_
    refine w_run [0, 0, 0, 0] ?_
    refine t_done [l0, (.agg [(.int .i64 r1), r2]), (.int .i64 0), (.bool (((len4 : Int)) == 0)), (.agg [(.int .i64 r1), r2]), (.int .i64 (IntKind.wrap .i64 ((len5 : Int) - 1))), (.bool (decide ((IntKind.wrap .i64 ((len5 : Int) - 1)) ≥ r1))), (.agg [(.int .i64 (imin r1 (IntKind.wrap .i64 ((len5 : Int) - 1)))), r2]), .undef] H7 (by kernel_rfl) ?_
    refine then_norm ?_
    refine w_cond (t := (decide ((IntKind.wrap .i64 ((len5 : Int) - 1)) ≥ r1))) rfl (fun hc => ?_) (fun hc => ?_)
    · replace h := h.1 (is_dec.t hc)
      refine w_seq ?_
      refine w_run [0, 0, 1, 0, 1, 0, 0] ?_
      obtain ⟨s8, hs, h⟩ := h
      refine t_slcH false 1 l0 (.int .i64 (IntKind.wrap .i64 ((len5 : Int) - 1))) s8 H7 (by kernel_rfl) hs ?_
      refine t_call true nFChance [s8, (.agg [(.int .i64 (imin r1 (IntKind.wrap .i64 ((len5 : Int) - 1)))), r2])] H7 (by kernel_rfl) h ?_
      clear h
      rintro _ H10 ⟨r9, rfl, h⟩
      refine t_done [l0, (.agg [(.int .i64 r1), r2]), (.int .i64 (IntKind.wrap .i64 (100 * r9))), (.bool (((len4 : Int)) == 0)), (.agg [(.int .i64 r1), r2]), (.int .i64 (IntKind.wrap .i64 ((len5 : Int) - 1))), (.bool (decide ((IntKind.wrap .i64 ((len5 : Int) - 1)) ≥ r1))), (.agg [(.int .i64 (imin r1 (IntKind.wrap .i64 ((len5 : Int) - 1)))), r2]), .undef] H10 (by kernel_rfl) ?_
      refine then_norm ?_
      refine w_ret ?_
      refine then_ret ?_
      exact body_ret (vs := [(.int .i64 (IntKind.wrap .i64 (100 * r9)))]) _ (by kernel_rfl) rfl h
    · replace h := h.2 (is_dec.f hc)
      refine w_skip ?_
      refine then_norm ?_
      refine w_seq ?_
      refine w_seq ?_
      refine w_run [0, 0, 0, 1] ?_
      refine t_call true nFHas [r2, (.int .i64 (IntKind.wrap .i64 ((len5 : Int) - 1)))] H7 (by kernel_rfl) h ?_
      clear h
      rintro _ H13 ⟨r12, rfl, h⟩
      refine t_done [l0, (.agg [(.int .i64 r1), r2]), (.int .i64 0), (.bool (((len4 : Int)) == 0)), (.agg [(.int .i64 r1), r2]), (.int .i64 (IntKind.wrap .i64 ((len5 : Int) - 1))), (.bool (decide ((IntKind.wrap .i64 ((len5 : Int) - 1)) ≥ r1))), (.agg [(.int .i64 (imin r1 (IntKind.wrap .i64 ((len5 : Int) - 1)))), r2]), (.bool r12)] H13 (by kernel_rfl) ?_
      refine then_norm ?_
      refine w_cond (t := r12) rfl (fun hc => ?_) (fun hc => ?_)
      · replace h := h.1 (is_raw.t hc)
        refine w_seq ?_
        refine w_run [0, 0, 1, 1, 0, 0, 1, 0, 1, 0, 0] ?_
        obtain ⟨e15, hg16, h⟩ := h
        refine t_idxG false 1 l0 .i64 (IntKind.wrap .i64 ((len5 : Int) - 1)) H13 (by kernel_rfl) hg16 ?_
        refine t_loadG false none 1 l0 (IntKind.wrap .i64 ((len5 : Int) - 1)) 0 (.int .i64 e15) H13 (by kernel_rfl) hg16 ?_
        obtain ⟨s17, hs, h⟩ := h
        refine t_slcH false 1 l0 (.int .i64 (IntKind.wrap .i64 ((len5 : Int) - 1))) s17 H13 (by kernel_rfl) hs ?_
        refine t_call false nFChance [s17, (.agg [(.int .i64 (imin r1 (IntKind.wrap .i64 ((len5 : Int) - 1)))), r2])] H13 (by kernel_rfl) h ?_
        clear h
        rintro _ H19 ⟨r18, rfl, h⟩
        refine t_done [l0, (.agg [(.int .i64 r1), r2]), (.int .i64 (IntKind.wrap .i64 (e15 * r18))), (.bool (((len4 : Int)) == 0)), (.agg [(.int .i64 r1), r2]), (.int .i64 (IntKind.wrap .i64 ((len5 : Int) - 1))), (.bool (decide ((IntKind.wrap .i64 ((len5 : Int) - 1)) ≥ r1))), (.agg [(.int .i64 (imin r1 (IntKind.wrap .i64 ((len5 : Int) - 1)))), r2]), (.bool r12)] H19 (by kernel_rfl) ?_
        refine then_norm ?_
        refine w_ret ?_
        refine then_ret ?_
        exact body_ret (vs := [(.int .i64 (IntKind.wrap .i64 (e15 * r18)))]) _ (by kernel_rfl) rfl h
      · replace h := h.2 (is_raw.f hc)
        refine w_skip ?_
        refine then_norm ?_
        refine w_seq ?_
        refine w_run [0, 0, 1, 1, 0, 0, 0, 1, 0, 1, 0, 0] ?_
        obtain ⟨e21, hg22, h⟩ := h
        refine t_idxG false 1 l0 .i64 (IntKind.wrap .i64 ((len5 : Int) - 1)) H13 (by kernel_rfl) hg22 ?_
        refine t_loadG false none 1 l0 (IntKind.wrap .i64 ((len5 : Int) - 1)) 0 (.int .i64 e21) H13 (by kernel_rfl) hg22 ?_
        obtain ⟨s23, hs, h⟩ := h
        refine t_slcH false 1 l0 (.int .i64 (IntKind.wrap .i64 ((len5 : Int) - 1))) s23 H13 (by kernel_rfl) hs ?_
        refine t_call false nFChance [s23, (.agg [(.int .i64 (imin r1 (IntKind.wrap .i64 ((len5 : Int) - 1)))), r2])] H13 (by kernel_rfl) h ?_
        clear h
        rintro _ H25 ⟨r24, rfl, h⟩
        refine t_done [l0, (.agg [(.int .i64 r1), r2]), (.int .i64 (IntKind.wrap .i64 ((IntKind.wrap .i64 (100 - e21)) * r24))), (.bool (((len4 : Int)) == 0)), (.agg [(.int .i64 r1), r2]), (.int .i64 (IntKind.wrap .i64 ((len5 : Int) - 1))), (.bool (decide ((IntKind.wrap .i64 ((len5 : Int) - 1)) ≥ r1))), (.agg [(.int .i64 (imin r1 (IntKind.wrap .i64 ((len5 : Int) - 1)))), r2]), (.bool r12)] H25 (by kernel_rfl) ?_
        refine then_norm ?_
        refine w_ret ?_
        exact body_ret (vs := [(.int .i64 (IntKind.wrap .i64 ((IntKind.wrap .i64 (100 - e21)) * r24)))]) _ (by kernel_rfl) rfl h

def rf_FRunOf : RFunc := ⟨2, 7, [.part 2 (some 2)],
 ((.seq (.ops [⟨.tomb 1 (.k (.agg [.int .i64 0, .empty])), none, (some 2), true⟩])
 ((.seq (.ops [⟨.move (.var 0), none, none, true⟩, ⟨.build [.int .i64 0, .empty] [(0, 1, (.loc 0))], none, none, true⟩, ⟨.tomb 1 (.k (.agg [.int .i64 0, .empty])), none, (some 6), true⟩, ⟨.upd 2 0 (.loc 2) (.loc 1), none, (some 6), true⟩])
 ((.seq ((.seq (.ops [⟨.move (.k (.int .i64 0)), none, (some 3), true⟩])
 (.block 0 (.loop ((.seq ((.seq (.ops [⟨.move (.var 3), none, none, true⟩, ⟨.move (.var 0), none, none, true⟩, ⟨.bin .lss .no (.loc 0) (.loc 1), none, (some 4), true⟩])
 (.cond (.var 4) (.skip) (.exit 0))))
 ((.seq (.block 1 ((.seq ((.seq (.ops [⟨.move (.var 1), none, none, true⟩, ⟨.bin .rem .no (.loc 0) (.k (.int .i64 2)), none, none, true⟩, ⟨.bin .eql .no (.loc 1) (.k (.int .i64 1)), none, (some 5), true⟩])
 (.cond (.var 5) (.ops [⟨.field 0 none (.var 6), none, none, true⟩, ⟨.field 1 none (.var 6), none, none, true⟩, ⟨.move (.var 3), none, none, true⟩, ⟨.buildSlice 1 [.int .i64 0] [(0, 1, (.loc 2))] 1, none, none, true⟩, ⟨.append 1 8 (.loc 1) (.loc 3), none, none, true⟩, ⟨.field 0 none (.var 6), none, none, true⟩, ⟨.upd 1 1 (.var 6) (.loc 4), none, (some 6), true⟩]) (.skip))))
 (.ops [⟨.move (.var 1), none, none, true⟩, ⟨.bin .quo .no (.loc 0) (.k (.int .i64 2)), none, none, true⟩, ⟨.move (.loc 1), none, (some 1), true⟩]))))
 (.ops [⟨.move (.var 3), none, none, true⟩, ⟨.bin .add .no (.loc 0) (.k (.int .i64 1)), none, none, true⟩, ⟨.move (.loc 1), none, (some 3), true⟩])))))))))
 ((.seq (.ops [⟨.field 0 (some 2) (.var 6), none, none, true⟩, ⟨.upd 2 0 (.var 2) (.loc 0), none, (some 2), true⟩])
 (.ret))))))))), none⟩
theorem v_FRunOf {F : Nat → Option RFunc} {me : Nat} (hF : F me = some (rf_FRunOf )) {fl : Nat} {H : Heap} {Q : AV → Heap → Prop} (last0 : Int) (weight1 : Int)
  (h : ∀ (H2 : Heap), Dead1 H 1 H2 → ∀ (H3 : Heap), Dead1 H2 1 H3 → ∃ (J4 : Nat → Int → Int → Int → AV → Heap → Prop) (k5 : Nat), J4 k5 weight1 0 last0 .empty H3 ∧ (∀ (m6 : Nat) (weight7 : Int) (i8 : Int) (r11 : Int) (r12 : AV) (H13 : Heap), J4 m6 weight7 i8 r11 r12 H13 → ((i8 < last0) → (((Int.tmod weight7 2) = 1) → ∀ (b14 : Nat) (H15 : Heap), NewB H13 1 [(.int .i64 i8)] b14 H15 → ∃ (a16 : AV) (H17 : Heap), appA fl true 1 8 H15 r12 (.slice b14 0 1 (some 1)) = some (a16, H17) ∧ Scal a16 ∧ ∃ m19 : Nat, m19 < m6 ∧ J4 m19 (IntKind.wrap .i64 (Int.tdiv weight7 2)) (IntKind.wrap .i64 (i8 + 1)) r11 a16 H17) ∧ (¬((Int.tmod weight7 2) = 1) → ∃ m20 : Nat, m20 < m6 ∧ J4 m20 (IntKind.wrap .i64 (Int.tdiv weight7 2)) (IntKind.wrap .i64 (i8 + 1)) r11 r12 H13)) ∧ (¬(i8 < last0) → Scal r12 ∧ Q (.agg [(.int .i64 r11), r12]) H13))) : Ret F fl me [(.int .i64 last0), (.int .i64 weight1)] H Q := by
  refine ret_intro hF rfl ?_
  refine w_seq ?_
  refine w_run [1] ?_
  obtain ⟨H2, hb⟩ : ∃ H', Dead1 H 1 H' := ⟨_, ⟨rfl⟩⟩
  replace h := h H2 hb
  refine t_tomb true 1 (.agg [(.int .i64 0), .empty]) [(.int .i64 0), .empty] H2 H (by kernel_rfl) rfl hb ?_
  refine t_done [(.int .i64 last0), (.int .i64 weight1), (.agg [(.int .i64 0), .empty]), .undef, .undef, .undef, .undef] H2 (by kernel_rfl) ?_
  refine then_norm ?_
  refine w_seq ?_
  refine w_run [0, 1, 1, 1] ?_
  refine t_build true [(.int .i64 0), .empty] [(0, 1, .loc 0)] [(.int .i64 last0)] [(.int .i64 last0), .empty] H2 (by kernel_rfl) (fill_c (vs := [(.int .i64 last0)]) (size := 1) rfl (by kernel_rfl) (by kernel_rfl) (by kernel_rfl)) ?_
  obtain ⟨H3, hb⟩ : ∃ H', Dead1 H2 1 H' := ⟨_, ⟨rfl⟩⟩
  replace h := h H3 hb
  refine t_tomb true 1 (.agg [(.int .i64 0), .empty]) [(.int .i64 0), .empty] H3 H2 (by kernel_rfl) rfl hb ?_
  refine t_upd true 2 0 [(.int .i64 0), .empty] (.agg [(.int .i64 last0), .empty]) [(.int .i64 last0), .empty] [(.int .i64 last0), .empty] H3 (by kernel_rfl) rfl (all_c rfl (all_c rfl all_n)) ⟨rfl, Nat.le_of_ble_eq_true (by kernel_rfl), rfl⟩ ?_
  refine t_done [(.int .i64 last0), (.int .i64 weight1), (.agg [(.int .i64 0), .empty]), .undef, .undef, .undef, (.agg [(.int .i64 last0), .empty])] H3 (by kernel_rfl) ?_
  refine then_norm ?_
  refine w_seq ?_
  refine w_seq ?_
  refine w_run [0] ?_
  refine t_done [(.int .i64 last0), (.int .i64 weight1), (.agg [(.int .i64 0), .empty]), (.int .i64 0), .undef, .undef, (.agg [(.int .i64 last0), .empty])] H3 (by kernel_rfl) ?_
  refine then_norm ?_
  refine w_block ?_
  obtain ⟨J4, k5, h0, h⟩ := h
  refine w_loop (I := fun mI EI HI => ∃ (weight7 : Int) (i8 : Int) (d9 : AV) (d10 : AV) (r11 : Int) (r12 : AV), EI = [(.int .i64 last0), (.int .i64 weight7), (.agg [(.int .i64 0), .empty]), (.int .i64 i8), d9, d10, (.agg [(.int .i64 r11), r12])] ∧ J4 mI weight7 i8 r11 r12 HI) ?_ k5 ⟨_, _, _, _, _, _, rfl, h0⟩
  clear h0
  rintro m6 EI H13 ⟨weight7, i8, d9, d10, r11, r12, rfl, hJ⟩
  replace h := h m6 weight7 i8 r11 r12 H13 hJ
  clear hJ
  refine w_seq ?_
  refine w_seq ?_
  refine w_run [0, 0, 0] ?_
  refine t_done [(.int .i64 last0), (.int .i64 weight7), (.agg [(.int .i64 0), .empty]), (.int .i64 i8), (.bool (decide (i8 < last0))), d10, (.agg [(.int .i64 r11), r12])] H13 (by kernel_rfl) ?_
  refine then_norm ?_
  refine w_cond (t := (decide (i8 < last0))) rfl (fun hc => ?_) (fun hc => ?_)
  · replace h := h.1 (is_dec.t hc)
    refine w_skip ?_
    refine then_norm ?_
    refine w_seq ?_
    refine w_block ?_
    refine w_seq ?_
    refine w_seq ?_
    refine w_run [0, 1, 0] ?_
    refine t_rem true .no .i64 weight7 2 H13 (by kernel_rfl) (by decide) ?_
    refine t_done [(.int .i64 last0), (.int .i64 weight7), (.agg [(.int .i64 0), .empty]), (.int .i64 i8), (.bool (decide (i8 < last0))), (.bool (((Int.tmod weight7 2)) == 1)), (.agg [(.int .i64 r11), r12])] H13 (by kernel_rfl) ?_
    refine then_norm ?_
    refine w_cond (t := (((Int.tmod weight7 2)) == 1)) rfl (fun hc => ?_) (fun hc => ?_)
    · replace h := h.1 (is_eq.t hc)
      refine w_run [0, 0, 0, 1, 1, 0, 1] ?_
      obtain ⟨b14, H15, hb⟩ : ∃ b H', NewB H13 1 [(.int .i64 i8)] b H' := ⟨_, _, rfl, rfl⟩
      replace h := h b14 H15 hb
      refine t_bs true 1 [(.int .i64 0)] [(0, 1, .loc 0)] 1 [(.int .i64 i8)] [(.int .i64 i8)] b14 H15 H13 (by kernel_rfl) (fill_c (vs := [(.int .i64 i8)]) (size := 1) rfl (by kernel_rfl) (by kernel_rfl) (by kernel_rfl)) hb ?_
      obtain ⟨a16, H17, ha, h⟩ := h
      refine t_app true 1 8 r12 (.slice b14 0 1 (some 1)) a16 H17 H15 (by kernel_rfl) ha ?_
      obtain ⟨hs18, h⟩ := h
      refine t_upd true 1 1 [(.int .i64 r11), r12] a16 [a16] [(.int .i64 r11), a16] H17 (by kernel_rfl) hs18.1 (all_c hs18.2 all_n) ⟨rfl, Nat.le_of_ble_eq_true (by kernel_rfl), rfl⟩ ?_
      refine t_done [(.int .i64 last0), (.int .i64 weight7), (.agg [(.int .i64 0), .empty]), (.int .i64 i8), (.bool (decide (i8 < last0))), (.bool (((Int.tmod weight7 2)) == 1)), (.agg [(.int .i64 r11), a16])] H17 (by kernel_rfl) ?_
      refine then_norm ?_
      refine w_run [0, 1, 0] ?_
      refine t_quo true .no .i64 weight7 2 H17 (by kernel_rfl) (by decide) ?_
      refine t_done [(.int .i64 last0), (.int .i64 (IntKind.wrap .i64 (Int.tdiv weight7 2))), (.agg [(.int .i64 0), .empty]), (.int .i64 i8), (.bool (decide (i8 < last0))), (.bool (((Int.tmod weight7 2)) == 1)), (.agg [(.int .i64 r11), a16])] H17 (by kernel_rfl) ?_
      refine block_norm ?_
      refine then_norm ?_
      refine w_run [0, 0, 0] ?_
      refine t_done [(.int .i64 last0), (.int .i64 (IntKind.wrap .i64 (Int.tdiv weight7 2))), (.agg [(.int .i64 0), .empty]), (.int .i64 (IntKind.wrap .i64 (i8 + 1))), (.bool (decide (i8 < last0))), (.bool (((Int.tmod weight7 2)) == 1)), (.agg [(.int .i64 r11), a16])] H17 (by kernel_rfl) ?_
      obtain ⟨m', hm, h⟩ := h
      refine loop_norm ⟨m', hm, _, _, _, _, _, _, rfl, h⟩
    · replace h := h.2 (is_eq.f hc)
      refine w_skip ?_
      refine then_norm ?_
      refine w_run [0, 1, 0] ?_
      refine t_quo true .no .i64 weight7 2 H13 (by kernel_rfl) (by decide) ?_
      refine t_done [(.int .i64 last0), (.int .i64 (IntKind.wrap .i64 (Int.tdiv weight7 2))), (.agg [(.int .i64 0), .empty]), (.int .i64 i8), (.bool (decide (i8 < last0))), (.bool (((Int.tmod weight7 2)) == 1)), (.agg [(.int .i64 r11), r12])] H13 (by kernel_rfl) ?_
      refine block_norm ?_
      refine then_norm ?_
      refine w_run [0, 0, 0] ?_
      refine t_done [(.int .i64 last0), (.int .i64 (IntKind.wrap .i64 (Int.tdiv weight7 2))), (.agg [(.int .i64 0), .empty]), (.int .i64 (IntKind.wrap .i64 (i8 + 1))), (.bool (decide (i8 < last0))), (.bool (((Int.tmod weight7 2)) == 1)), (.agg [(.int .i64 r11), r12])] H13 (by kernel_rfl) ?_
      obtain ⟨m', hm, h⟩ := h
      refine loop_norm ⟨m', hm, _, _, _, _, _, _, rfl, h⟩
  · replace h := h.2 (is_dec.f hc)
    refine w_exit ?_
    refine then_exit ?_
    refine loop_exit ?_
    refine block_exit ?_
    refine then_norm ?_
    refine w_seq ?_
    refine w_run [0, 1] ?_
    obtain ⟨hs21, h⟩ := h
    refine t_upd true 2 0 [(.int .i64 0), .empty] (.agg [(.int .i64 r11), r12]) [(.int .i64 r11), r12] [(.int .i64 r11), r12] H13 (by kernel_rfl) rfl (all_c rfl (all_c hs21.2 all_n)) ⟨rfl, Nat.le_of_ble_eq_true (by kernel_rfl), rfl⟩ ?_
    refine t_done [(.int .i64 last0), (.int .i64 weight7), (.agg [(.int .i64 r11), r12]), (.int .i64 i8), (.bool (decide (i8 < last0))), d10, (.agg [(.int .i64 r11), r12])] H13 (by kernel_rfl) ?_
    refine then_norm ?_
    refine w_ret ?_
    exact body_ret (vs := [(.agg [(.int .i64 r11), r12])]) _ (by kernel_rfl) rfl h

def rf_FBefore (nFChance nFWeight : Nat) : RFunc := ⟨3, 10, [.var 3],
 ((.seq (.ops [⟨.tomb 1 (.var 1), none, (some 4), true⟩, ⟨.tomb 1 (.var 2), none, (some 5), true⟩, ⟨.move (.k (.bool false)), none, (some 3), true⟩])
 ((.seq (.ops [⟨.move (.var 0), none, none, true⟩, ⟨.field 0 (some 2) (.var 4), none, none, true⟩, ⟨.callS nFChance [(.loc 0), (.loc 1)], none, none, true⟩, ⟨.move (.loc 2), none, (some 6), true⟩])
 ((.seq (.ops [⟨.move (.var 0), none, none, true⟩, ⟨.field 0 (some 2) (.var 5), none, none, true⟩, ⟨.callS nFChance [(.loc 0), (.loc 1)], none, none, true⟩, ⟨.move (.loc 2), none, (some 7), true⟩])
 ((.seq ((.seq (.ops [⟨.move (.var 6), none, none, true⟩, ⟨.move (.var 7), none, none, true⟩, ⟨.bin .neq .no (.loc 0) (.loc 1), none, (some 8), true⟩])
 (.cond (.var 8) ((.seq (.ops [⟨.move (.var 6), none, none, true⟩, ⟨.move (.var 7), none, none, true⟩, ⟨.bin .gtr .no (.loc 0) (.loc 1), none, none, true⟩, ⟨.move (.loc 2), none, (some 3), true⟩])
 (.ret))) (.skip))))
 ((.seq ((.seq (.ops [⟨.field 0 none (.var 4), none, none, true⟩, ⟨.field 0 none (.var 4), none, none, true⟩, ⟨.field 0 none (.var 5), none, none, true⟩, ⟨.field 0 none (.var 5), none, none, true⟩, ⟨.bin .neq .no (.loc 1) (.loc 3), none, (some 9), true⟩])
 (.cond (.var 9) ((.seq (.ops [⟨.field 0 none (.var 4), none, none, true⟩, ⟨.field 0 none (.var 4), none, none, true⟩, ⟨.field 0 none (.var 5), none, none, true⟩, ⟨.field 0 none (.var 5), none, none, true⟩, ⟨.bin .lss .no (.loc 1) (.loc 3), none, none, true⟩, ⟨.move (.loc 4), none, (some 3), true⟩])
 (.ret))) (.skip))))
 ((.seq (.ops [⟨.field 0 none (.var 4), none, none, false⟩, ⟨.field 1 none (.var 4), none, none, false⟩, ⟨.callS nFWeight [(.loc 1)], none, none, false⟩, ⟨.field 0 none (.var 5), none, none, false⟩, ⟨.field 1 none (.var 5), none, none, false⟩, ⟨.callS nFWeight [(.loc 4)], none, none, true⟩, ⟨.bin .lss .no (.loc 2) (.loc 5), none, none, true⟩, ⟨.move (.loc 6), none, (some 3), true⟩])
 (.ret))))))))))))), none⟩
theorem v_FBefore {F : Nat → Option RFunc} {me nFChance nFWeight : Nat} (hF : F me = some (rf_FBefore nFChance nFWeight)) {fl : Nat} {H : Heap} {Q : AV → Heap → Prop} (l0 : AV) (a1 : Int) (a2 : AV) (b3 : Int) (b4 : AV)
  (h : ∀ (H5 : Heap), Dead1 H 1 H5 → ∀ (H6 : Heap), Dead1 H5 1 H6 → Ret F fl nFChance [l0, (.agg [(.int .i64 a1), a2])] H6 (fun v9 H8 => ∃ (r7 : Int), v9 = (.int .i64 r7) ∧ Ret F fl nFChance [l0, (.agg [(.int .i64 b3), b4])] H8 (fun v12 H11 => ∃ (r10 : Int), v12 = (.int .i64 r10) ∧ ((r7 ≠ r10) → Q (.bool (decide (r7 > r10))) H11) ∧ (¬(r7 ≠ r10) → ((a1 ≠ b3) → Q (.bool (decide (a1 < b3))) H11) ∧ (¬(a1 ≠ b3) → Ret F H11.length nFWeight [a2] H11 (fun v15 H14 => ∃ (r13 : Int), v15 = (.int .i64 r13) ∧ Ret F fl nFWeight [b4] H14 (fun v18 H17 => ∃ (r16 : Int), v18 = (.int .i64 r16) ∧ Q (.bool (decide (r13 < r16))) H17))))))) : Ret F fl me [l0, (.agg [(.int .i64 a1), a2]), (.agg [(.int .i64 b3), b4])] H Q := by
  refine ret_intro hF rfl ?_
  refine w_seq ?_
  refine w_run [1, 1, 0] ?_
  obtain ⟨H5, hb⟩ : ∃ H', Dead1 H 1 H' := ⟨_, ⟨rfl⟩⟩
  replace h := h H5 hb
  refine t_tomb true 1 (.agg [(.int .i64 a1), a2]) [(.int .i64 a1), a2] H5 H (by kernel_rfl) rfl hb ?_
  obtain ⟨H6, hb⟩ : ∃ H', Dead1 H5 1 H' := ⟨_, ⟨rfl⟩⟩
  replace h := h H6 hb
  refine t_tomb true 1 (.agg [(.int .i64 b3), b4]) [(.int .i64 b3), b4] H6 H5 (by kernel_rfl) rfl hb ?_
  refine t_done [l0, (.agg [(.int .i64 a1), a2]), (.agg [(.int .i64 b3), b4]), (.bool false), (.agg [(.int .i64 a1), a2]), (.agg [(.int .i64 b3), b4]), .undef, .undef, .undef, .undef] H6 (by kernel_rfl) ?_
  refine then_norm ?_
  refine w_seq ?_
  refine w_run [0, 0, 1, 0] ?_
  refine t_call true nFChance [l0, (.agg [(.int .i64 a1), a2])] H6 (by kernel_rfl) h ?_
  clear h
  rintro _ H8 ⟨r7, rfl, h⟩
  refine t_done [l0, (.agg [(.int .i64 a1), a2]), (.agg [(.int .i64 b3), b4]), (.bool false), (.agg [(.int .i64 a1), a2]), (.agg [(.int .i64 b3), b4]), (.int .i64 r7), .undef, .undef, .undef] H8 (by kernel_rfl) ?_
  refine then_norm ?_
  refine w_seq ?_
  refine w_run [0, 0, 1, 0] ?_
  refine t_call true nFChance [l0, (.agg [(.int .i64 b3), b4])] H8 (by kernel_rfl) h ?_
  clear h
  rintro _ H11 ⟨r10, rfl, h⟩
  refine t_done [l0, (.agg [(.int .i64 a1), a2]), (.agg [(.int .i64 b3), b4]), (.bool false), (.agg [(.int .i64 a1), a2]), (.agg [(.int .i64 b3), b4]), (.int .i64 r7), (.int .i64 r10), .undef, .undef] H11 (by kernel_rfl) ?_
  refine then_norm ?_
  refine w_seq ?_
  refine w_seq ?_
  refine w_run [0, 0, 0] ?_
  refine t_done [l0, (.agg [(.int .i64 a1), a2]), (.agg [(.int .i64 b3), b4]), (.bool false), (.agg [(.int .i64 a1), a2]), (.agg [(.int .i64 b3), b4]), (.int .i64 r7), (.int .i64 r10), (.bool ((r7) != r10)), .undef] H11 (by kernel_rfl) ?_
  refine then_norm ?_
  refine w_cond (t := ((r7) != r10)) rfl (fun hc => ?_) (fun hc => ?_)
  · replace h := h.1 (is_ne.t hc)
    refine w_seq ?_
    refine w_run [0, 0, 0, 0] ?_
    refine t_done [l0, (.agg [(.int .i64 a1), a2]), (.agg [(.int .i64 b3), b4]), (.bool (decide (r7 > r10))), (.agg [(.int .i64 a1), a2]), (.agg [(.int .i64 b3), b4]), (.int .i64 r7), (.int .i64 r10), (.bool ((r7) != r10)), .undef] H11 (by kernel_rfl) ?_
    refine then_norm ?_
    refine w_ret ?_
    refine then_ret ?_
    exact body_ret (vs := [(.bool (decide (r7 > r10)))]) _ (by kernel_rfl) rfl h
  · replace h := h.2 (is_ne.f hc)
    refine w_skip ?_
    refine then_norm ?_
    refine w_seq ?_
    refine w_seq ?_
    refine w_run [0, 0, 0, 0, 0] ?_
    refine t_done [l0, (.agg [(.int .i64 a1), a2]), (.agg [(.int .i64 b3), b4]), (.bool false), (.agg [(.int .i64 a1), a2]), (.agg [(.int .i64 b3), b4]), (.int .i64 r7), (.int .i64 r10), (.bool ((r7) != r10)), (.bool ((a1) != b3))] H11 (by kernel_rfl) ?_
    refine then_norm ?_
    refine w_cond (t := ((a1) != b3)) rfl (fun hc => ?_) (fun hc => ?_)
    · replace h := h.1 (is_ne.t hc)
      refine w_seq ?_
      refine w_run [0, 0, 0, 0, 0, 0] ?_
      refine t_done [l0, (.agg [(.int .i64 a1), a2]), (.agg [(.int .i64 b3), b4]), (.bool (decide (a1 < b3))), (.agg [(.int .i64 a1), a2]), (.agg [(.int .i64 b3), b4]), (.int .i64 r7), (.int .i64 r10), (.bool ((r7) != r10)), (.bool ((a1) != b3))] H11 (by kernel_rfl) ?_
      refine then_norm ?_
      refine w_ret ?_
      refine then_ret ?_
      exact body_ret (vs := [(.bool (decide (a1 < b3)))]) _ (by kernel_rfl) rfl h
    · replace h := h.2 (is_ne.f hc)
      refine w_skip ?_
      refine then_norm ?_
      refine w_seq ?_
      refine w_run [0, 0, 1, 0, 0, 1, 0, 0] ?_
      refine t_call false nFWeight [a2] H11 (by kernel_rfl) h ?_
      clear h
      rintro _ H14 ⟨r13, rfl, h⟩
      refine t_call true nFWeight [b4] H14 (by kernel_rfl) h ?_
      clear h
      rintro _ H17 ⟨r16, rfl, h⟩
      refine t_done [l0, (.agg [(.int .i64 a1), a2]), (.agg [(.int .i64 b3), b4]), (.bool (decide (r13 < r16))), (.agg [(.int .i64 a1), a2]), (.agg [(.int .i64 b3), b4]), (.int .i64 r7), (.int .i64 r10), (.bool ((r7) != r10)), (.bool ((a1) != b3))] H17 (by kernel_rfl) ?_
      refine then_norm ?_
      refine w_ret ?_
      exact body_ret (vs := [(.bool (decide (r13 < r16)))]) _ (by kernel_rfl) rfl h

def rf_FWeight : RFunc := ⟨1, 5, [.var 1],
 ((.seq (.ops [⟨.move (.k (.int .i64 0)), none, (some 1), true⟩])
 ((.seq (.ops [⟨.move (.k (.int .i64 0)), none, (some 4), true⟩])
 ((.seq ((.seq (.ops [⟨.move (.k (.int .i64 0)), none, (some 2), true⟩])
 (.block 0 (.loop ((.seq ((.seq (.ops [⟨.move (.var 2), none, none, true⟩, ⟨.move (.var 0), none, none, true⟩, ⟨.len (.loc 1), none, none, true⟩, ⟨.bin .lss .no (.loc 0) (.loc 2), none, (some 3), true⟩])
 (.cond (.var 3) (.skip) (.exit 0))))
 ((.seq (.block 1 (.ops [⟨.move (.var 4), none, none, true⟩, ⟨.move (.var 0), none, none, true⟩, ⟨.move (.var 2), none, none, true⟩, ⟨.indexAddr 1 (.loc 1) (.loc 2), none, none, true⟩, ⟨.load none (.loc 3), none, none, true⟩, ⟨.bin .shl .no (.k (.int .i64 1)) (.loc 4), none, none, true⟩, ⟨.bin .add .no (.loc 0) (.loc 5), none, none, true⟩, ⟨.move (.loc 6), none, (some 4), true⟩]))
 (.ops [⟨.move (.var 2), none, none, true⟩, ⟨.bin .add .no (.loc 0) (.k (.int .i64 1)), none, none, true⟩, ⟨.move (.loc 1), none, (some 2), true⟩])))))))))
 ((.seq (.ops [⟨.move (.var 4), none, none, true⟩, ⟨.move (.loc 0), none, (some 1), true⟩])
 (.ret))))))))), none⟩
theorem v_FWeight {F : Nat → Option RFunc} {me : Nat} (hF : F me = some (rf_FWeight )) {fl : Nat} {H : Heap} {Q : AV → Heap → Prop} (l0 : AV)
  (h : ∃ (J1 : Nat → Int → Int → Prop) (k2 : Nat), J1 k2 0 0 ∧ (∀ (m3 : Nat) (i4 : Int) (sum6 : Int), J1 m3 i4 sum6 → ∃ len7 : Nat, lenA l0 = some len7 ∧ ((i4 < (len7 : Int)) → ∃ (e8 : Int), getA H 1 none l0 i4 0 = some (.int .i64 e8) ∧ 0 ≤ e8 ∧ ∃ m10 : Nat, m10 < m3 ∧ J1 m10 (IntKind.wrap .i64 (i4 + 1)) (IntKind.wrap .i64 (sum6 + (IntKind.wrap .i64 (1 * 2 ^ (Min.min (Int.toNat e8) (IntKind.bits .i64))))))) ∧ (¬(i4 < (len7 : Int)) → Q (.int .i64 sum6) H))) : Ret F fl me [l0] H Q := by
  refine ret_intro hF rfl ?_
  refine w_seq ?_
  refine w_run [0] ?_
  refine t_done [l0, (.int .i64 0), .undef, .undef, .undef] H (by kernel_rfl) ?_
  refine then_norm ?_
  refine w_seq ?_
  refine w_run [0] ?_
  refine t_done [l0, (.int .i64 0), .undef, .undef, (.int .i64 0)] H (by kernel_rfl) ?_
  refine then_norm ?_
  refine w_seq ?_
  refine w_seq ?_
  refine w_run [0] ?_
  refine t_done [l0, (.int .i64 0), (.int .i64 0), .undef, (.int .i64 0)] H (by kernel_rfl) ?_
  refine then_norm ?_
  refine w_block ?_
  obtain ⟨J1, k2, h0, h⟩ := h
  refine w_loop (I := fun mI EI HI => ∃ (i4 : Int) (d5 : AV) (sum6 : Int), EI = [l0, (.int .i64 0), (.int .i64 i4), d5, (.int .i64 sum6)] ∧ H = HI ∧ J1 mI i4 sum6) ?_ k2 ⟨_, _, _, rfl, rfl, h0⟩
  clear h0
  rintro m3 EI HI ⟨i4, d5, sum6, rfl, rfl, hJ⟩
  replace h := h m3 i4 sum6  hJ
  clear hJ
  refine w_seq ?_
  refine w_seq ?_
  refine w_run [0, 0, 1, 0] ?_
  obtain ⟨len7, hl, h⟩ := h
  refine t_len true l0 len7 H (by kernel_rfl) hl ?_
  refine t_done [l0, (.int .i64 0), (.int .i64 i4), (.bool (decide (i4 < (len7 : Int)))), (.int .i64 sum6)] H (by kernel_rfl) ?_
  refine then_norm ?_
  refine w_cond (t := (decide (i4 < (len7 : Int)))) rfl (fun hc => ?_) (fun hc => ?_)
  · replace h := h.1 (is_dec.t hc)
    refine w_skip ?_
    refine then_norm ?_
    refine w_seq ?_
    refine w_block ?_
    refine w_run [0, 0, 0, 1, 1, 1, 0, 0] ?_
    obtain ⟨e8, hg9, h⟩ := h
    refine t_idxG true 1 l0 .i64 i4 H (by kernel_rfl) hg9 ?_
    refine t_loadG true none 1 l0 i4 0 (.int .i64 e8) H (by kernel_rfl) hg9 ?_
    obtain ⟨hq, h⟩ := h
    refine t_shl true .no .i64 .i64 1 e8 H (by kernel_rfl) hq ?_
    refine t_done [l0, (.int .i64 0), (.int .i64 i4), (.bool (decide (i4 < (len7 : Int)))), (.int .i64 (IntKind.wrap .i64 (sum6 + (IntKind.wrap .i64 (1 * 2 ^ (Min.min (Int.toNat e8) (IntKind.bits .i64)))))))] H (by kernel_rfl) ?_
    refine block_norm ?_
    refine then_norm ?_
    refine w_run [0, 0, 0] ?_
    refine t_done [l0, (.int .i64 0), (.int .i64 (IntKind.wrap .i64 (i4 + 1))), (.bool (decide (i4 < (len7 : Int)))), (.int .i64 (IntKind.wrap .i64 (sum6 + (IntKind.wrap .i64 (1 * 2 ^ (Min.min (Int.toNat e8) (IntKind.bits .i64)))))))] H (by kernel_rfl) ?_
    obtain ⟨m', hm, h⟩ := h
    refine loop_norm ⟨m', hm, _, _, _, rfl, rfl, h⟩
  · replace h := h.2 (is_dec.f hc)
    refine w_exit ?_
    refine then_exit ?_
    refine loop_exit ?_
    refine block_exit ?_
    refine then_norm ?_
    refine w_seq ?_
    refine w_run [0, 0] ?_
    refine t_done [l0, (.int .i64 sum6), (.int .i64 i4), (.bool (decide (i4 < (len7 : Int)))), (.int .i64 sum6)] H (by kernel_rfl) ?_
    refine then_norm ?_
    refine w_ret ?_
    exact body_ret (vs := [(.int .i64 sum6)]) _ (by kernel_rfl) rfl h

def rf_FEqualRuns (nFEqualInts : Nat) : RFunc := ⟨2, 5, [.var 2],
 ((.seq (.ops [⟨.tomb 1 (.var 0), none, (some 3), true⟩, ⟨.tomb 1 (.var 1), none, (some 4), true⟩, ⟨.move (.k (.bool false)), none, (some 2), true⟩])
 ((.seq (.ops [⟨.field 0 none (.var 3), none, none, true⟩, ⟨.field 0 none (.var 3), none, none, true⟩, ⟨.field 0 none (.var 4), none, none, true⟩, ⟨.field 0 none (.var 4), none, none, true⟩, ⟨.bin .eql .no (.loc 1) (.loc 3), none, none, true⟩, ⟨.move (.loc 4), none, none, true⟩, ⟨.field 0 none (.var 3), none, none, true⟩, ⟨.field 1 none (.var 3), none, none, true⟩, ⟨.field 0 none (.var 4), none, none, true⟩, ⟨.field 1 none (.var 4), none, none, true⟩, ⟨.callS nFEqualInts [(.loc 7), (.loc 9)], (some (5, true)), none, true⟩, ⟨.pick (.loc 5) (.loc 10) (.k (.bool false)), none, none, true⟩, ⟨.move (.loc 11), none, (some 2), true⟩])
 (.ret))))), none⟩
theorem v_FEqualRuns {F : Nat → Option RFunc} {me nFEqualInts : Nat} (hF : F me = some (rf_FEqualRuns nFEqualInts)) {fl : Nat} {H : Heap} {Q : AV → Heap → Prop} (a0 : Int) (a1 : AV) (b2 : Int) (b3 : AV)
  (h : ∀ (H4 : Heap), Dead1 H 1 H4 → ∀ (H5 : Heap), Dead1 H4 1 H5 → ((a0 = b2) → Ret F fl nFEqualInts [a1, b3] H5 (fun v8 H7 => ∃ (r6 : Bool), v8 = (.bool r6) ∧ Q (.bool r6) H7)) ∧ (¬(a0 = b2) → Q (.bool false) H5)) : Ret F fl me [(.agg [(.int .i64 a0), a1]), (.agg [(.int .i64 b2), b3])] H Q := by
  refine ret_intro hF rfl ?_
  refine w_seq ?_
  refine w_run [1, 1, 0] ?_
  obtain ⟨H4, hb⟩ : ∃ H', Dead1 H 1 H' := ⟨_, ⟨rfl⟩⟩
  replace h := h H4 hb
  refine t_tomb true 1 (.agg [(.int .i64 a0), a1]) [(.int .i64 a0), a1] H4 H (by kernel_rfl) rfl hb ?_
  obtain ⟨H5, hb⟩ : ∃ H', Dead1 H4 1 H' := ⟨_, ⟨rfl⟩⟩
  replace h := h H5 hb
  refine t_tomb true 1 (.agg [(.int .i64 b2), b3]) [(.int .i64 b2), b3] H5 H4 (by kernel_rfl) rfl hb ?_
  refine t_done [(.agg [(.int .i64 a0), a1]), (.agg [(.int .i64 b2), b3]), (.bool false), (.agg [(.int .i64 a0), a1]), (.agg [(.int .i64 b2), b3])] H5 (by kernel_rfl) ?_
  refine then_norm ?_
  refine w_seq ?_
  refine w_run [0, 0, 0, 0, 0, 0, 0, 0, 0, 0, 3, 0, 0] ?_
  refine t_gd ((a0) == b2) true (by kernel_rfl) (fun hc => ?_) (fun hc => ?_)
  · replace h := h.1 (is_eq.t hc)
    refine t_call true nFEqualInts [a1, b3] H5 (by kernel_rfl) h ?_
    clear h
    rintro _ H7 ⟨r6, rfl, h⟩
    refine t_done [(.agg [(.int .i64 a0), a1]), (.agg [(.int .i64 b2), b3]), (.bool r6), (.agg [(.int .i64 a0), a1]), (.agg [(.int .i64 b2), b3])] H7 (by kernel_rfl) ?_
    refine then_norm ?_
    refine w_ret ?_
    exact body_ret (vs := [(.bool r6)]) _ (by kernel_rfl) rfl h
  · replace h := h.2 (is_eq.f hc)
    refine t_done [(.agg [(.int .i64 a0), a1]), (.agg [(.int .i64 b2), b3]), (.bool false), (.agg [(.int .i64 a0), a1]), (.agg [(.int .i64 b2), b3])] H5 (by kernel_rfl) ?_
    refine then_norm ?_
    refine w_ret ?_
    exact body_ret (vs := [(.bool false)]) _ (by kernel_rfl) rfl h

end Go.RM

