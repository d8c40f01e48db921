import Derived.Test.YteplndpnfdmgkaaRmOpt3
/-
  Functions of the program as the abstract machine runs them, and what must be shown of a run: printed by RmPrint.
-/
namespace Go.RM
set_option linter.unusedVariables false
set_option maxRecDepth 4000
def rf_FLogFault (nFFault nFRecordValid nFChain : Nat) : RFunc := ⟨1, 9, [.part 1 (some 2)],
 ((.seq (.ops [⟨.tomb 1 (.k (.agg [.int .i64 0, .int .i64 0])), none, (some 1), true⟩])
 ((.seq ((.seq (.ops [⟨.move (.var 0), none, none, true⟩, ⟨.len (.loc 0), none, none, true⟩, ⟨.bin .gtr .no (.loc 1) (.k (.int .i64 40)), none, (some 2), true⟩])
 (.cond (.var 2) ((.seq (.ops [⟨.callS nFFault [(.k (.int .i64 2)), (.k (.int .i64 (-1)))], none, none, true⟩, ⟨.upd 2 0 (.var 1) (.loc 0), none, (some 1), true⟩])
 (.ret))) (.skip))))
 ((.seq (.ops [⟨.tomb 1 (.k (.agg [.int .i64 0, .int .i64 0, .int .i64 0, .int .i64 0])), none, (some 6), true⟩])
 ((.seq ((.seq (.ops [⟨.move (.k (.int .i64 0)), none, (some 3), true⟩])
 (.block 0 (.loop ((.seq ((.seq (.ops [⟨.move (.var 3), none, none, true⟩, ⟨.move (.var 0), none, none, true⟩, ⟨.len (.loc 1), none, none, true⟩, ⟨.bin .lss .no (.loc 0) (.loc 2), none, (some 4), true⟩])
 (.cond (.var 4) (.skip) (.exit 0))))
 ((.seq (.block 1 ((.seq ((.seq (.ops [⟨.move (.var 0), none, none, true⟩, ⟨.move (.var 3), none, none, true⟩, ⟨.indexAddr 4 (.loc 0) (.loc 1), none, none, true⟩, ⟨.load (some 4) (.loc 2), none, none, true⟩, ⟨.callS nFRecordValid [(.loc 3)], none, none, true⟩, ⟨.un .not (.loc 4), none, (some 5), true⟩])
 (.cond (.var 5) ((.seq (.ops [⟨.move (.var 3), none, none, true⟩, ⟨.callS nFFault [(.k (.int .i64 3)), (.loc 0)], none, none, true⟩, ⟨.upd 2 0 (.var 1) (.loc 1), none, (some 1), true⟩])
 (.ret))) (.skip))))
 ((.seq ((.seq (.ops [⟨.move (.var 0), none, none, false⟩, ⟨.move (.var 3), none, none, false⟩, ⟨.indexAddr 4 (.loc 0) (.loc 1), none, none, false⟩, ⟨.fieldAddr 0 (.loc 2), none, none, false⟩, ⟨.load none (.loc 3), none, none, false⟩, ⟨.field 0 none (.var 6), none, none, false⟩, ⟨.field 0 none (.var 6), none, none, false⟩, ⟨.bin .lss .no (.loc 4) (.loc 6), none, (some 7), true⟩])
 (.cond (.var 7) ((.seq (.ops [⟨.move (.var 3), none, none, true⟩, ⟨.callS nFFault [(.k (.int .i64 5)), (.loc 0)], none, none, true⟩, ⟨.upd 2 0 (.var 1) (.loc 1), none, (some 1), true⟩])
 (.ret))) (.skip))))
 ((.seq ((.seq (.ops [⟨.move (.var 0), none, none, false⟩, ⟨.move (.var 3), none, none, false⟩, ⟨.indexAddr 4 (.loc 0) (.loc 1), none, none, false⟩, ⟨.fieldAddr 3 (.loc 2), none, none, false⟩, ⟨.load none (.loc 3), none, none, false⟩, ⟨.field 0 none (.var 6), none, none, false⟩, ⟨.field 3 none (.var 6), none, none, false⟩, ⟨.move (.var 0), none, none, false⟩, ⟨.move (.var 3), none, none, false⟩, ⟨.indexAddr 4 (.loc 7) (.loc 8), none, none, false⟩, ⟨.load (some 4) (.loc 9), none, none, false⟩, ⟨.callS nFChain [(.loc 6), (.loc 10)], none, none, false⟩, ⟨.bin .neq .no (.loc 4) (.loc 11), none, (some 8), true⟩])
 (.cond (.var 8) ((.seq (.ops [⟨.move (.var 3), none, none, true⟩, ⟨.callS nFFault [(.k (.int .i64 18)), (.loc 0)], none, none, true⟩, ⟨.upd 2 0 (.var 1) (.loc 1), none, (some 1), true⟩])
 (.ret))) (.skip))))
 (.ops [⟨.move (.var 0), none, none, true⟩, ⟨.move (.var 3), none, none, true⟩, ⟨.indexAddr 4 (.loc 0) (.loc 1), none, none, true⟩, ⟨.load (some 4) (.loc 2), none, none, true⟩, ⟨.upd 4 0 (.var 6) (.loc 3), none, (some 6), true⟩]))))))))
 (.ops [⟨.move (.var 3), none, none, true⟩, ⟨.bin .add .no (.loc 0) (.k (.int .i64 1)), none, none, true⟩, ⟨.move (.loc 1), none, (some 3), true⟩])))))))))
 ((.seq (.ops [⟨.callS nFFault [(.k (.int .i64 0)), (.k (.int .i64 0))], none, none, true⟩, ⟨.upd 2 0 (.var 1) (.loc 0), none, (some 1), true⟩])
 (.ret))))))))))), none⟩
theorem v_FLogFault {F : Nat → Option RFunc} {me nFFault nFRecordValid nFChain : Nat} (hF : F me = some (rf_FLogFault nFFault nFRecordValid nFChain)) {fl : Nat} {H : Heap} {Q : AV → Heap → Prop} (l0 : AV)
  (h : ∀ (H1 : Heap), Dead1 H 1 H1 → ∃ len2 : Nat, lenA l0 = some len2 ∧ (((len2 : Int) > 40) → Ret F fl nFFault [(.int .i64 2), (.int .i64 (-1))] H1 (fun v6 H5 => ∃ (r3 : Int) (r4 : Int), v6 = (.agg [(.int .i64 r3), (.int .i64 r4)]) ∧ Q (.agg [(.int .i64 r3), (.int .i64 r4)]) H5)) ∧ (¬((len2 : Int) > 40) → ∀ (H7 : Heap), Dead1 H1 1 H7 → ∃ (J8 : Nat → Int → Int → Int → Int → Int → Int → Int → Heap → Prop) (k9 : Nat), J8 k9 0 0 0 0 0 0 0 H7 ∧ (∀ (m10 : Nat) (v11 : Int) (v12 : Int) (i13 : Int) (last16 : Int) (last17 : Int) (last18 : Int) (last19 : Int) (H22 : Heap), J8 m10 v11 v12 i13 last16 last17 last18 last19 H22 → ∃ len23 : Nat, lenA l0 = some len23 ∧ ((i13 < (len23 : Int)) → ∃ (e24 : Int) (e25 : Int) (e26 : Int) (e27 : Int), getA H22 4 (some 4) l0 i13 0 = some (.agg [(.int .i64 e24), (.int .i64 e25), (.int .i64 e26), (.int .i64 e27)]) ∧ Ret F fl nFRecordValid [(.agg [(.int .i64 e24), (.int .i64 e25), (.int .i64 e26), (.int .i64 e27)])] H22 (fun v31 H30 => ∃ (r29 : Bool), v31 = (.bool r29) ∧ ((¬(r29 = true)) → Ret F fl nFFault [(.int .i64 3), (.int .i64 i13)] H30 (fun v35 H34 => ∃ (r32 : Int) (r33 : Int), v35 = (.agg [(.int .i64 r32), (.int .i64 r33)]) ∧ Q (.agg [(.int .i64 r32), (.int .i64 r33)]) H34)) ∧ (¬(¬(r29 = true)) → ∃ (e36 : Int), getA H30 4 none l0 i13 0 = some (.int .i64 e36) ∧ ((e36 < last16) → Ret F fl nFFault [(.int .i64 5), (.int .i64 i13)] H30 (fun v41 H40 => ∃ (r38 : Int) (r39 : Int), v41 = (.agg [(.int .i64 r38), (.int .i64 r39)]) ∧ Q (.agg [(.int .i64 r38), (.int .i64 r39)]) H40)) ∧ (¬(e36 < last16) → ∃ (e42 : Int), getA H30 4 none l0 i13 3 = some (.int .i64 e42) ∧ ∃ (e44 : Int) (e45 : Int) (e46 : Int) (e47 : Int), getA H30 4 (some 4) l0 i13 0 = some (.agg [(.int .i64 e44), (.int .i64 e45), (.int .i64 e46), (.int .i64 e47)]) ∧ Ret F H30.length nFChain [(.int .i64 last19), (.agg [(.int .i64 e44), (.int .i64 e45), (.int .i64 e46), (.int .i64 e47)])] H30 (fun v51 H50 => ∃ (r49 : Int), v51 = (.int .i64 r49) ∧ ((e42 ≠ r49) → Ret F fl nFFault [(.int .i64 18), (.int .i64 i13)] H50 (fun v55 H54 => ∃ (r52 : Int) (r53 : Int), v55 = (.agg [(.int .i64 r52), (.int .i64 r53)]) ∧ Q (.agg [(.int .i64 r52), (.int .i64 r53)]) H54)) ∧ (¬(e42 ≠ r49) → ∃ (e56 : Int) (e57 : Int) (e58 : Int) (e59 : Int), getA H50 4 (some 4) l0 i13 0 = some (.agg [(.int .i64 e56), (.int .i64 e57), (.int .i64 e58), (.int .i64 e59)]) ∧ ∃ m61 : Nat, m61 < m10 ∧ J8 m61 v11 v12 (IntKind.wrap .i64 (i13 + 1)) e56 e57 e58 e59 H50)))))) ∧ (¬(i13 < (len23 : Int)) → Ret F fl nFFault [(.int .i64 0), (.int .i64 0)] H22 (fun v65 H64 => ∃ (r62 : Int) (r63 : Int), v65 = (.agg [(.int .i64 r62), (.int .i64 r63)]) ∧ Q (.agg [(.int .i64 r62), (.int .i64 r63)]) H64))))) : Ret F fl me [l0] H Q := by
  refine ret_intro hF rfl ?_
  refine w_seq ?_
  refine w_run [1] ?_
  obtain ⟨H1, hb⟩ : ∃ H', Dead1 H 1 H' := ⟨_, ⟨rfl⟩⟩
  replace h := h H1 hb
  refine t_tomb true 1 (.agg [(.int .i64 0), (.int .i64 0)]) [(.int .i64 0), (.int .i64 0)] H1 H (by kernel_rfl) rfl hb ?_
  refine t_done [l0, (.agg [(.int .i64 0), (.int .i64 0)]), .undef, .undef, .undef, .undef, .undef, .undef, .undef] H1 (by kernel_rfl) ?_
  refine then_norm ?_
  refine w_seq ?_
  refine w_seq ?_
  refine w_run [0, 1, 0] ?_
  obtain ⟨len2, hl, h⟩ := h
  refine t_len true l0 len2 H1 (by kernel_rfl) hl ?_
  refine t_done [l0, (.agg [(.int .i64 0), (.int .i64 0)]), (.bool (decide ((len2 : Int) > 40))), .undef, .undef, .undef, .undef, .undef, .undef] H1 (by kernel_rfl) ?_
  refine then_norm ?_
  refine w_cond (t := (decide ((len2 : Int) > 40))) rfl (fun hc => ?_) (fun hc => ?_)
  · replace h := h.1 (is_dec.t hc)
    refine w_seq ?_
    refine w_run [1, 1] ?_
    refine t_call true nFFault [(.int .i64 2), (.int .i64 (-1))] H1 (by kernel_rfl) h ?_
    clear h
    rintro _ H5 ⟨r3, r4, rfl, h⟩
    refine t_upd true 2 0 [(.int .i64 0), (.int .i64 0)] (.agg [(.int .i64 r3), (.int .i64 r4)]) [(.int .i64 r3), (.int .i64 r4)] [(.int .i64 r3), (.int .i64 r4)] H5 (by kernel_rfl) rfl (all_c rfl (all_c rfl all_n)) ⟨rfl, Nat.le_of_ble_eq_true (by kernel_rfl), rfl⟩ ?_
    refine t_done [l0, (.agg [(.int .i64 r3), (.int .i64 r4)]), (.bool (decide ((len2 : Int) > 40))), .undef, .undef, .undef, .undef, .undef, .undef] H5 (by kernel_rfl) ?_
    refine then_norm ?_
    refine w_ret ?_
    refine then_ret ?_
    exact body_ret (vs := [(.agg [(.int .i64 r3), (.int .i64 r4)])]) _ (by kernel_rfl) rfl h
  · replace h := h.2 (is_dec.f hc)
    refine w_skip ?_
    refine then_norm ?_
    refine w_seq ?_
    refine w_run [1] ?_
    obtain ⟨H7, hb⟩ : ∃ H', Dead1 H1 1 H' := ⟨_, ⟨rfl⟩⟩
    replace h := h H7 hb
    refine t_tomb true 1 (.agg [(.int .i64 0), (.int .i64 0), (.int .i64 0), (.int .i64 0)]) [(.int .i64 0), (.int .i64 0), (.int .i64 0), (.int .i64 0)] H7 H1 (by kernel_rfl) rfl hb ?_
    refine t_done [l0, (.agg [(.int .i64 0), (.int .i64 0)]), (.bool (decide ((len2 : Int) > 40))), .undef, .undef, .undef, (.agg [(.int .i64 0), (.int .i64 0), (.int .i64 0), (.int .i64 0)]), .undef, .undef] H7 (by kernel_rfl) ?_
    refine then_norm ?_
    refine w_seq ?_
    refine w_seq ?_
    refine w_run [0] ?_
    refine t_done [l0, (.agg [(.int .i64 0), (.int .i64 0)]), (.bool (decide ((len2 : Int) > 40))), (.int .i64 0), .undef, .undef, (.agg [(.int .i64 0), (.int .i64 0), (.int .i64 0), (.int .i64 0)]), .undef, .undef] H7 (by kernel_rfl) ?_
    refine then_norm ?_
    refine w_block ?_
    obtain ⟨J8, k9, h0, h⟩ := h
    refine w_loop (I := fun mI EI HI => ∃ (v11 : Int) (v12 : Int) (i13 : Int) (d14 : AV) (d15 : AV) (last16 : Int) (last17 : Int) (last18 : Int) (last19 : Int) (d20 : AV) (d21 : AV), EI = [l0, (.agg [(.int .i64 v11), (.int .i64 v12)]), (.bool (decide ((len2 : Int) > 40))), (.int .i64 i13), d14, d15, (.agg [(.int .i64 last16), (.int .i64 last17), (.int .i64 last18), (.int .i64 last19)]), d20, d21] ∧ J8 mI v11 v12 i13 last16 last17 last18 last19 HI) ?_ k9 ⟨_, _, _, _, _, _, _, _, _, _, _, rfl, h0⟩
    clear h0
    rintro m10 EI H22 ⟨v11, v12, i13, d14, d15, last16, last17, last18, last19, d20, d21, rfl, hJ⟩
    replace h := h m10 v11 v12 i13 last16 last17 last18 last19 H22 hJ
    clear hJ
    refine w_seq ?_
    refine w_seq ?_
    refine w_run [0, 0, 1, 0] ?_
    obtain ⟨len23, hl, h⟩ := h
    refine t_len true l0 len23 H22 (by kernel_rfl) hl ?_
    refine t_done [l0, (.agg [(.int .i64 v11), (.int .i64 v12)]), (.bool (decide ((len2 : Int) > 40))), (.int .i64 i13), (.bool (decide (i13 < (len23 : Int)))), d15, (.agg [(.int .i64 last16), (.int .i64 last17), (.int .i64 last18), (.int .i64 last19)]), d20, d21] H22 (by kernel_rfl) ?_
    refine then_norm ?_
    refine w_cond (t := (decide (i13 < (len23 : Int)))) rfl (fun hc => ?_) (fun hc => ?_)
    · replace h := h.1 (is_dec.t hc)
      refine w_skip ?_
      refine then_norm ?_
      refine w_seq ?_
      refine w_block ?_
      refine w_seq ?_
      refine w_seq ?_
      refine w_run [0, 0, 1, 1, 1, 0] ?_
      obtain ⟨e24, e25, e26, e27, hg28, h⟩ := h
      refine t_idxG true 4 l0 .i64 i13 H22 (by kernel_rfl) hg28 ?_
      refine t_loadG true (some 4) 4 l0 i13 0 (.agg [(.int .i64 e24), (.int .i64 e25), (.int .i64 e26), (.int .i64 e27)]) H22 (by kernel_rfl) hg28 ?_
      refine t_call true nFRecordValid [(.agg [(.int .i64 e24), (.int .i64 e25), (.int .i64 e26), (.int .i64 e27)])] H22 (by kernel_rfl) h ?_
      clear h
      rintro _ H30 ⟨r29, rfl, h⟩
      refine t_done [l0, (.agg [(.int .i64 v11), (.int .i64 v12)]), (.bool (decide ((len2 : Int) > 40))), (.int .i64 i13), (.bool (decide (i13 < (len23 : Int)))), (.bool (!r29)), (.agg [(.int .i64 last16), (.int .i64 last17), (.int .i64 last18), (.int .i64 last19)]), d20, d21] H30 (by kernel_rfl) ?_
      refine then_norm ?_
      refine w_cond (t := (!r29)) rfl (fun hc => ?_) (fun hc => ?_)
      · replace h := h.1 ((is_not is_raw).t hc)
        refine w_seq ?_
        refine w_run [0, 1, 1] ?_
        refine t_call true nFFault [(.int .i64 3), (.int .i64 i13)] H30 (by kernel_rfl) h ?_
        clear h
        rintro _ H34 ⟨r32, r33, rfl, h⟩
        refine t_upd true 2 0 [(.int .i64 v11), (.int .i64 v12)] (.agg [(.int .i64 r32), (.int .i64 r33)]) [(.int .i64 r32), (.int .i64 r33)] [(.int .i64 r32), (.int .i64 r33)] H34 (by kernel_rfl) rfl (all_c rfl (all_c rfl all_n)) ⟨rfl, Nat.le_of_ble_eq_true (by kernel_rfl), rfl⟩ ?_
        refine t_done [l0, (.agg [(.int .i64 r32), (.int .i64 r33)]), (.bool (decide ((len2 : Int) > 40))), (.int .i64 i13), (.bool (decide (i13 < (len23 : Int)))), (.bool (!r29)), (.agg [(.int .i64 last16), (.int .i64 last17), (.int .i64 last18), (.int .i64 last19)]), d20, d21] H34 (by kernel_rfl) ?_
        refine then_norm ?_
        refine w_ret ?_
        refine then_ret ?_
        refine block_ret ?_
        refine then_ret ?_
        refine loop_ret ?_
        refine block_ret ?_
        refine then_ret ?_
        exact body_ret (vs := [(.agg [(.int .i64 r32), (.int .i64 r33)])]) _ (by kernel_rfl) rfl h
      · replace h := h.2 ((is_not is_raw).f hc)
        refine w_skip ?_
        refine then_norm ?_
        refine w_seq ?_
        refine w_seq ?_
        refine w_run [0, 0, 1, 1, 1, 0, 0, 0] ?_
        obtain ⟨e36, hg37, h⟩ := h
        refine t_idxG false 4 l0 .i64 i13 H30 (by kernel_rfl) hg37 ?_
        refine t_fldG false 0 4 l0 i13 0 H30 (by kernel_rfl) hg37 ?_
        refine t_loadG false none 4 l0 i13 0 (.int .i64 e36) H30 (by kernel_rfl) hg37 ?_
        refine t_done [l0, (.agg [(.int .i64 v11), (.int .i64 v12)]), (.bool (decide ((len2 : Int) > 40))), (.int .i64 i13), (.bool (decide (i13 < (len23 : Int)))), (.bool (!r29)), (.agg [(.int .i64 last16), (.int .i64 last17), (.int .i64 last18), (.int .i64 last19)]), (.bool (decide (e36 < last16))), d21] H30 (by kernel_rfl) ?_
        refine then_norm ?_
        refine w_cond (t := (decide (e36 < last16))) rfl (fun hc => ?_) (fun hc => ?_)
        · replace h := h.1 (is_dec.t hc)
          refine w_seq ?_
          refine w_run [0, 1, 1] ?_
          refine t_call true nFFault [(.int .i64 5), (.int .i64 i13)] H30 (by kernel_rfl) h ?_
          clear h
          rintro _ H40 ⟨r38, r39, rfl, h⟩
          refine t_upd true 2 0 [(.int .i64 v11), (.int .i64 v12)] (.agg [(.int .i64 r38), (.int .i64 r39)]) [(.int .i64 r38), (.int .i64 r39)] [(.int .i64 r38), (.int .i64 r39)] H40 (by kernel_rfl) rfl (all_c rfl (all_c rfl all_n)) ⟨rfl, Nat.le_of_ble_eq_true (by kernel_rfl), rfl⟩ ?_
          refine t_done [l0, (.agg [(.int .i64 r38), (.int .i64 r39)]), (.bool (decide ((len2 : Int) > 40))), (.int .i64 i13), (.bool (decide (i13 < (len23 : Int)))), (.bool (!r29)), (.agg [(.int .i64 last16), (.int .i64 last17), (.int .i64 last18), (.int .i64 last19)]), (.bool (decide (e36 < last16))), d21] H40 (by kernel_rfl) ?_
          refine then_norm ?_
          refine w_ret ?_
          refine then_ret ?_
          refine block_ret ?_
          refine then_ret ?_
          refine loop_ret ?_
          refine block_ret ?_
          refine then_ret ?_
          exact body_ret (vs := [(.agg [(.int .i64 r38), (.int .i64 r39)])]) _ (by kernel_rfl) rfl h
        · replace h := h.2 (is_dec.f hc)
          refine w_skip ?_
          refine then_norm ?_
          refine w_seq ?_
          refine w_seq ?_
          refine w_run [0, 0, 1, 1, 1, 0, 0, 0, 0, 1, 1, 1, 0] ?_
          obtain ⟨e42, hg43, h⟩ := h
          refine t_idxG false 4 l0 .i64 i13 H30 (by kernel_rfl) hg43 ?_
          refine t_fldG false 3 4 l0 i13 0 H30 (by kernel_rfl) hg43 ?_
          refine t_loadG false none 4 l0 i13 3 (.int .i64 e42) H30 (by kernel_rfl) hg43 ?_
          obtain ⟨e44, e45, e46, e47, hg48, h⟩ := h
          refine t_idxG false 4 l0 .i64 i13 H30 (by kernel_rfl) hg48 ?_
          refine t_loadG false (some 4) 4 l0 i13 0 (.agg [(.int .i64 e44), (.int .i64 e45), (.int .i64 e46), (.int .i64 e47)]) H30 (by kernel_rfl) hg48 ?_
          refine t_call false nFChain [(.int .i64 last19), (.agg [(.int .i64 e44), (.int .i64 e45), (.int .i64 e46), (.int .i64 e47)])] H30 (by kernel_rfl) h ?_
          clear h
          rintro _ H50 ⟨r49, rfl, h⟩
          refine t_done [l0, (.agg [(.int .i64 v11), (.int .i64 v12)]), (.bool (decide ((len2 : Int) > 40))), (.int .i64 i13), (.bool (decide (i13 < (len23 : Int)))), (.bool (!r29)), (.agg [(.int .i64 last16), (.int .i64 last17), (.int .i64 last18), (.int .i64 last19)]), (.bool (decide (e36 < last16))), (.bool ((e42) != r49))] H50 (by kernel_rfl) ?_
          refine then_norm ?_
          refine w_cond (t := ((e42) != r49)) rfl (fun hc => ?_) (fun hc => ?_)
          · replace h := h.1 (is_ne.t hc)
            refine w_seq ?_
            refine w_run [0, 1, 1] ?_
            refine t_call true nFFault [(.int .i64 18), (.int .i64 i13)] H50 (by kernel_rfl) h ?_
            clear h
            rintro _ H54 ⟨r52, r53, rfl, h⟩
            refine t_upd true 2 0 [(.int .i64 v11), (.int .i64 v12)] (.agg [(.int .i64 r52), (.int .i64 r53)]) [(.int .i64 r52), (.int .i64 r53)] [(.int .i64 r52), (.int .i64 r53)] H54 (by kernel_rfl) rfl (all_c rfl (all_c rfl all_n)) ⟨rfl, Nat.le_of_ble_eq_true (by kernel_rfl), rfl⟩ ?_
            refine t_done [l0, (.agg [(.int .i64 r52), (.int .i64 r53)]), (.bool (decide ((len2 : Int) > 40))), (.int .i64 i13), (.bool (decide (i13 < (len23 : Int)))), (.bool (!r29)), (.agg [(.int .i64 last16), (.int .i64 last17), (.int .i64 last18), (.int .i64 last19)]), (.bool (decide (e36 < last16))), (.bool ((e42) != r49))] H54 (by kernel_rfl) ?_
            refine then_norm ?_
            refine w_ret ?_
            refine then_ret ?_
            refine block_ret ?_
            refine then_ret ?_
            refine loop_ret ?_
            refine block_ret ?_
            refine then_ret ?_
            exact body_ret (vs := [(.agg [(.int .i64 r52), (.int .i64 r53)])]) _ (by kernel_rfl) rfl h
          · replace h := h.2 (is_ne.f hc)
            refine w_skip ?_
            refine then_norm ?_
            refine w_run [0, 0, 1, 1, 1] ?_
            obtain ⟨e56, e57, e58, e59, hg60, h⟩ := h
            refine t_idxG true 4 l0 .i64 i13 H50 (by kernel_rfl) hg60 ?_
            refine t_loadG true (some 4) 4 l0 i13 0 (.agg [(.int .i64 e56), (.int .i64 e57), (.int .i64 e58), (.int .i64 e59)]) H50 (by kernel_rfl) hg60 ?_
            refine t_upd true 4 0 [(.int .i64 last16), (.int .i64 last17), (.int .i64 last18), (.int .i64 last19)] (.agg [(.int .i64 e56), (.int .i64 e57), (.int .i64 e58), (.int .i64 e59)]) [(.int .i64 e56), (.int .i64 e57), (.int .i64 e58), (.int .i64 e59)] [(.int .i64 e56), (.int .i64 e57), (.int .i64 e58), (.int .i64 e59)] H50 (by kernel_rfl) rfl (all_c rfl (all_c rfl (all_c rfl (all_c rfl all_n)))) ⟨rfl, Nat.le_of_ble_eq_true (by kernel_rfl), rfl⟩ ?_
            refine t_done [l0, (.agg [(.int .i64 v11), (.int .i64 v12)]), (.bool (decide ((len2 : Int) > 40))), (.int .i64 i13), (.bool (decide (i13 < (len23 : Int)))), (.bool (!r29)), (.agg [(.int .i64 e56), (.int .i64 e57), (.int .i64 e58), (.int .i64 e59)]), (.bool (decide (e36 < last16))), (.bool ((e42) != r49))] H50 (by kernel_rfl) ?_
            refine block_norm ?_
            refine then_norm ?_
            refine w_run [0, 0, 0] ?_
            refine t_done [l0, (.agg [(.int .i64 v11), (.int .i64 v12)]), (.bool (decide ((len2 : Int) > 40))), (.int .i64 (IntKind.wrap .i64 (i13 + 1))), (.bool (decide (i13 < (len23 : Int)))), (.bool (!r29)), (.agg [(.int .i64 e56), (.int .i64 e57), (.int .i64 e58), (.int .i64 e59)]), (.bool (decide (e36 < last16))), (.bool ((e42) != r49))] H50 (by kernel_rfl) ?_
            obtain ⟨m', hm, h⟩ := h
            refine loop_norm ⟨m', hm, _, _, _, _, _, _, _, _, _, _, _, rfl, h⟩
    · replace h := h.2 (is_dec.f hc)
      refine w_exit ?_
      refine then_exit ?_
      refine loop_exit ?_
      refine block_exit ?_
      refine then_norm ?_
      refine w_seq ?_
      refine w_run [1, 1] ?_
      refine t_call true nFFault [(.int .i64 0), (.int .i64 0)] H22 (by kernel_rfl) h ?_
      clear h
      rintro _ H64 ⟨r62, r63, rfl, h⟩
      refine t_upd true 2 0 [(.int .i64 v11), (.int .i64 v12)] (.agg [(.int .i64 r62), (.int .i64 r63)]) [(.int .i64 r62), (.int .i64 r63)] [(.int .i64 r62), (.int .i64 r63)] H64 (by kernel_rfl) rfl (all_c rfl (all_c rfl all_n)) ⟨rfl, Nat.le_of_ble_eq_true (by kernel_rfl), rfl⟩ ?_
      refine t_done [l0, (.agg [(.int .i64 r62), (.int .i64 r63)]), (.bool (decide ((len2 : Int) > 40))), (.int .i64 i13), (.bool (decide (i13 < (len23 : Int)))), d15, (.agg [(.int .i64 last16), (.int .i64 last17), (.int .i64 last18), (.int .i64 last19)]), d20, d21] H64 (by kernel_rfl) ?_
      refine then_norm ?_
      refine w_ret ?_
      exact body_ret (vs := [(.agg [(.int .i64 r62), (.int .i64 r63)])]) _ (by kernel_rfl) rfl h

def rf_FRecordValid : RFunc := ⟨1, 3, [.var 1],
 ((.seq (.ops [⟨.tomb 1 (.var 0), none, (some 2), true⟩, ⟨.move (.k (.bool false)), none, (some 1), true⟩])
 ((.seq (.ops [⟨.field 0 none (.var 2), none, none, true⟩, ⟨.field 0 none (.var 2), none, none, true⟩, ⟨.bin .geq .no (.loc 1) (.k (.int .i64 0)), none, none, true⟩, ⟨.move (.loc 2), none, none, true⟩, ⟨.field 0 none (.var 2), none, none, true⟩, ⟨.field 0 none (.var 2), none, none, true⟩, ⟨.bin .leq .no (.loc 5) (.k (.int .i64 100000)), none, none, true⟩, ⟨.pick (.loc 3) (.loc 6) (.k (.bool false)), none, none, true⟩, ⟨.move (.loc 7), none, none, true⟩, ⟨.field 0 none (.var 2), none, none, true⟩, ⟨.field 1 none (.var 2), none, none, true⟩, ⟨.bin .geq .no (.loc 10) (.k (.int .i64 0)), none, none, true⟩, ⟨.pick (.loc 8) (.loc 11) (.k (.bool false)), none, none, true⟩, ⟨.move (.loc 12), none, none, true⟩, ⟨.field 0 none (.var 2), none, none, true⟩, ⟨.field 1 none (.var 2), none, none, true⟩, ⟨.bin .leq .no (.loc 15) (.k (.int .i64 7)), none, none, true⟩, ⟨.pick (.loc 13) (.loc 16) (.k (.bool false)), none, none, true⟩, ⟨.move (.loc 17), none, none, true⟩, ⟨.field 0 none (.var 2), none, none, true⟩, ⟨.field 2 none (.var 2), none, none, true⟩, ⟨.bin .geq .no (.loc 20) (.k (.int .i64 0)), none, none, true⟩, ⟨.pick (.loc 18) (.loc 21) (.k (.bool false)), none, none, true⟩, ⟨.move (.loc 22), none, none, true⟩, ⟨.field 0 none (.var 2), none, none, true⟩, ⟨.field 2 none (.var 2), none, none, true⟩, ⟨.bin .leq .no (.loc 25) (.k (.int .i64 1000000000)), none, none, true⟩, ⟨.pick (.loc 23) (.loc 26) (.k (.bool false)), none, none, true⟩, ⟨.move (.loc 27), none, none, true⟩, ⟨.field 0 none (.var 2), none, none, true⟩, ⟨.field 3 none (.var 2), none, none, true⟩, ⟨.bin .geq .no (.loc 30) (.k (.int .i64 0)), none, none, true⟩, ⟨.pick (.loc 28) (.loc 31) (.k (.bool false)), none, none, true⟩, ⟨.move (.loc 32), none, none, true⟩, ⟨.field 0 none (.var 2), none, none, true⟩, ⟨.field 3 none (.var 2), none, none, true⟩, ⟨.bin .lss .no (.loc 35) (.k (.int .i64 2305843009213693951)), none, none, true⟩, ⟨.pick (.loc 33) (.loc 36) (.k (.bool false)), none, none, true⟩, ⟨.move (.loc 37), none, (some 1), true⟩])
 (.ret))))), none⟩
theorem v_FRecordValid {F : Nat → Option RFunc} {me : Nat} (hF : F me = some (rf_FRecordValid )) {fl : Nat} {H : Heap} {Q : AV → Heap → Prop} (r0 : Int) (r1 : Int) (r2 : Int) (r3 : Int)
  (h : ∀ (H4 : Heap), Dead1 H 1 H4 → Q (.bool ((((((((decide (r0 ≥ 0)) && (decide (r0 ≤ 100000))) && (decide (r1 ≥ 0))) && (decide (r1 ≤ 7))) && (decide (r2 ≥ 0))) && (decide (r2 ≤ 1000000000))) && (decide (r3 ≥ 0))) && (decide (r3 < 2305843009213693951)))) H4) : Ret F fl me [(.agg [(.int .i64 r0), (.int .i64 r1), (.int .i64 r2), (.int .i64 r3)])] H Q := by
  refine ret_intro hF rfl ?_
  refine w_seq ?_
  refine w_run [1, 0] ?_
  obtain ⟨H4, hb⟩ : ∃ H', Dead1 H 1 H' := ⟨_, ⟨rfl⟩⟩
  replace h := h H4 hb
  refine t_tomb true 1 (.agg [(.int .i64 r0), (.int .i64 r1), (.int .i64 r2), (.int .i64 r3)]) [(.int .i64 r0), (.int .i64 r1), (.int .i64 r2), (.int .i64 r3)] H4 H (by kernel_rfl) rfl hb ?_
  refine t_done [(.agg [(.int .i64 r0), (.int .i64 r1), (.int .i64 r2), (.int .i64 r3)]), (.bool false), (.agg [(.int .i64 r0), (.int .i64 r1), (.int .i64 r2), (.int .i64 r3)])] H4 (by kernel_rfl) ?_
  refine then_norm ?_
  refine w_seq ?_
  refine w_run [0, 0, 0, 0, 0, 0, 0, 0, 0, 0, 0, 0, 0, 0, 0, 0, 0, 0, 0, 0, 0, 0, 0, 0, 0, 0, 0, 0, 0, 0, 0, 0, 0, 0, 0, 0, 0, 0, 0] ?_
  refine t_done [(.agg [(.int .i64 r0), (.int .i64 r1), (.int .i64 r2), (.int .i64 r3)]), (.bool ((((((((decide (r0 ≥ 0)) && (decide (r0 ≤ 100000))) && (decide (r1 ≥ 0))) && (decide (r1 ≤ 7))) && (decide (r2 ≥ 0))) && (decide (r2 ≤ 1000000000))) && (decide (r3 ≥ 0))) && (decide (r3 < 2305843009213693951)))), (.agg [(.int .i64 r0), (.int .i64 r1), (.int .i64 r2), (.int .i64 r3)])] H4 (by kernel_rfl) ?_
  refine then_norm ?_
  refine w_ret ?_
  exact body_ret (vs := [(.bool ((((((((decide (r0 ≥ 0)) && (decide (r0 ≤ 100000))) && (decide (r1 ≥ 0))) && (decide (r1 ≤ 7))) && (decide (r2 ≥ 0))) && (decide (r2 ≤ 1000000000))) && (decide (r3 ≥ 0))) && (decide (r3 < 2305843009213693951))))]) _ (by kernel_rfl) rfl h

def rf_FChain (nFPair : Nat) : RFunc := ⟨2, 4, [.var 2],
 ((.seq (.ops [⟨.tomb 1 (.var 1), none, (some 3), true⟩, ⟨.move (.k (.int .i64 0)), none, (some 2), true⟩])
 ((.seq (.ops [⟨.move (.var 0), none, none, false⟩, ⟨.field 0 none (.var 3), none, none, false⟩, ⟨.field 0 none (.var 3), none, none, false⟩, ⟨.bin .mul .no (.k (.int .i64 8)) (.loc 2), none, none, false⟩, ⟨.field 0 none (.var 3), none, none, false⟩, ⟨.field 1 none (.var 3), none, none, false⟩, ⟨.bin .add .no (.loc 3) (.loc 5), none, none, false⟩, ⟨.callS nFPair [(.loc 0), (.loc 6)], none, none, false⟩, ⟨.field 0 none (.var 3), none, none, false⟩, ⟨.field 2 none (.var 3), none, none, false⟩, ⟨.callS nFPair [(.loc 7), (.loc 9)], none, none, true⟩, ⟨.move (.loc 10), none, (some 2), true⟩])
 (.ret))))), none⟩
theorem v_FChain {F : Nat → Option RFunc} {me nFPair : Nat} (hF : F me = some (rf_FChain nFPair)) {fl : Nat} {H : Heap} {Q : AV → Heap → Prop} (before0 : Int) (r1 : Int) (r2 : Int) (r3 : Int) (r4 : Int)
  (h : ∀ (H5 : Heap), Dead1 H 1 H5 → Ret F H5.length nFPair [(.int .i64 before0), (.int .i64 (IntKind.wrap .i64 ((IntKind.wrap .i64 (8 * r1)) + r2)))] H5 (fun v8 H7 => ∃ (r6 : Int), v8 = (.int .i64 r6) ∧ Ret F fl nFPair [(.int .i64 r6), (.int .i64 r3)] H7 (fun v11 H10 => ∃ (r9 : Int), v11 = (.int .i64 r9) ∧ Q (.int .i64 r9) H10))) : Ret F fl me [(.int .i64 before0), (.agg [(.int .i64 r1), (.int .i64 r2), (.int .i64 r3), (.int .i64 r4)])] H Q := by
  refine ret_intro hF rfl ?_
  refine w_seq ?_
  refine w_run [1, 0] ?_
  obtain ⟨H5, hb⟩ : ∃ H', Dead1 H 1 H' := ⟨_, ⟨rfl⟩⟩
  replace h := h H5 hb
  refine t_tomb true 1 (.agg [(.int .i64 r1), (.int .i64 r2), (.int .i64 r3), (.int .i64 r4)]) [(.int .i64 r1), (.int .i64 r2), (.int .i64 r3), (.int .i64 r4)] H5 H (by kernel_rfl) rfl hb ?_
  refine t_done [(.int .i64 before0), (.agg [(.int .i64 r1), (.int .i64 r2), (.int .i64 r3), (.int .i64 r4)]), (.int .i64 0), (.agg [(.int .i64 r1), (.int .i64 r2), (.int .i64 r3), (.int .i64 r4)])] H5 (by kernel_rfl) ?_
  refine then_norm ?_
  refine w_seq ?_
  refine w_run [0, 0, 0, 0, 0, 0, 0, 1, 0, 0, 1, 0] ?_
  refine t_call false nFPair [(.int .i64 before0), (.int .i64 (IntKind.wrap .i64 ((IntKind.wrap .i64 (8 * r1)) + r2)))] H5 (by kernel_rfl) h ?_
  clear h
  rintro _ H7 ⟨r6, rfl, h⟩
  refine t_call true nFPair [(.int .i64 r6), (.int .i64 r3)] H7 (by kernel_rfl) h ?_
  clear h
  rintro _ H10 ⟨r9, rfl, h⟩
  refine t_done [(.int .i64 before0), (.agg [(.int .i64 r1), (.int .i64 r2), (.int .i64 r3), (.int .i64 r4)]), (.int .i64 r9), (.agg [(.int .i64 r1), (.int .i64 r2), (.int .i64 r3), (.int .i64 r4)])] H10 (by kernel_rfl) ?_
  refine then_norm ?_
  refine w_ret ?_
  exact body_ret (vs := [(.int .i64 r9)]) _ (by kernel_rfl) rfl h

def rf_FPair (nFproduct : Nat) : RFunc := ⟨2, 3, [.var 2],
 ((.seq (.ops [⟨.move (.k (.int .i64 0)), none, (some 2), true⟩])
 ((.seq (.ops [⟨.move (.var 0), none, none, true⟩, ⟨.callS nFproduct [(.loc 0), (.k (.int .i64 1000003))], none, none, true⟩, ⟨.move (.var 1), none, none, true⟩, ⟨.callS nFproduct [(.loc 2), (.k (.int .i64 31))], none, none, true⟩, ⟨.bin .add .no (.loc 1) (.loc 3), none, none, true⟩, ⟨.bin .add .no (.loc 4) (.k (.int .i64 7)), none, none, true⟩, ⟨.bin .rem .no (.loc 5) (.k (.int .i64 2305843009213693951)), none, none, true⟩, ⟨.move (.loc 6), none, (some 2), true⟩])
 (.ret))))), none⟩
theorem v_FPair {F : Nat → Option RFunc} {me nFproduct : Nat} (hF : F me = some (rf_FPair nFproduct)) {fl : Nat} {H : Heap} {Q : AV → Heap → Prop} (a0 : Int) (b1 : Int)
  (h : Ret F fl nFproduct [(.int .i64 a0), (.int .i64 1000003)] H (fun v4 H3 => ∃ (r2 : Int), v4 = (.int .i64 r2) ∧ Ret F fl nFproduct [(.int .i64 b1), (.int .i64 31)] H3 (fun v7 H6 => ∃ (r5 : Int), v7 = (.int .i64 r5) ∧ Q (.int .i64 (Int.tmod (IntKind.wrap .i64 ((IntKind.wrap .i64 (r2 + r5)) + 7)) 2305843009213693951)) H6))) : Ret F fl me [(.int .i64 a0), (.int .i64 b1)] H Q := by
  refine ret_intro hF rfl ?_
  refine w_seq ?_
  refine w_run [0] ?_
  refine t_done [(.int .i64 a0), (.int .i64 b1), (.int .i64 0)] H (by kernel_rfl) ?_
  refine then_norm ?_
  refine w_seq ?_
  refine w_run [0, 1, 0, 1, 0, 0, 1, 0] ?_
  refine t_call true nFproduct [(.int .i64 a0), (.int .i64 1000003)] H (by kernel_rfl) h ?_
  clear h
  rintro _ H3 ⟨r2, rfl, h⟩
  refine t_call true nFproduct [(.int .i64 b1), (.int .i64 31)] H3 (by kernel_rfl) h ?_
  clear h
  rintro _ H6 ⟨r5, rfl, h⟩
  refine t_rem true .no .i64 (IntKind.wrap .i64 ((IntKind.wrap .i64 (r2 + r5)) + 7)) 2305843009213693951 H6 (by kernel_rfl) (by decide) ?_
  refine t_done [(.int .i64 a0), (.int .i64 b1), (.int .i64 (Int.tmod (IntKind.wrap .i64 ((IntKind.wrap .i64 (r2 + r5)) + 7)) 2305843009213693951))] H6 (by kernel_rfl) ?_
  refine then_norm ?_
  refine w_ret ?_
  exact body_ret (vs := [(.int .i64 (Int.tmod (IntKind.wrap .i64 ((IntKind.wrap .i64 (r2 + r5)) + 7)) 2305843009213693951))]) _ (by kernel_rfl) rfl h

def rf_Fproduct : RFunc := ⟨2, 6, [.var 2],
 ((.seq (.ops [⟨.move (.k (.int .i64 0)), none, (some 2), true⟩])
 ((.seq (.ops [⟨.move (.k (.int .i64 0)), none, (some 5), true⟩])
 ((.seq (.block 0 (.loop ((.seq ((.seq (.ops [⟨.move (.var 1), none, none, true⟩, ⟨.bin .gtr .no (.loc 0) (.k (.int .i64 0)), none, (some 3), true⟩])
 (.cond (.var 3) (.skip) (.exit 0))))
 (.block 1 ((.seq ((.seq (.ops [⟨.move (.var 1), none, none, true⟩, ⟨.bin .rem .no (.loc 0) (.k (.int .i64 2)), none, none, true⟩, ⟨.bin .eql .no (.loc 1) (.k (.int .i64 1)), none, (some 4), true⟩])
 (.cond (.var 4) (.ops [⟨.move (.var 5), none, none, true⟩, ⟨.move (.var 0), none, none, true⟩, ⟨.bin .add .no (.loc 0) (.loc 1), none, none, true⟩, ⟨.bin .rem .no (.loc 2) (.k (.int .i64 2305843009213693951)), none, none, true⟩, ⟨.move (.loc 3), none, (some 5), true⟩]) (.skip))))
 ((.seq (.ops [⟨.move (.var 0), none, none, true⟩, ⟨.bin .mul .no (.k (.int .i64 2)) (.loc 0), none, none, true⟩, ⟨.bin .rem .no (.loc 1) (.k (.int .i64 2305843009213693951)), none, none, true⟩, ⟨.move (.loc 2), none, (some 0), true⟩])
 (.ops [⟨.move (.var 1), none, none, true⟩, ⟨.bin .quo .no (.loc 0) (.k (.int .i64 2)), none, none, true⟩, ⟨.move (.loc 1), none, (some 1), true⟩]))))))))))
 ((.seq (.ops [⟨.move (.var 5), none, none, true⟩, ⟨.move (.loc 0), none, (some 2), true⟩])
 (.ret))))))))), none⟩
theorem v_Fproduct {F : Nat → Option RFunc} {me : Nat} (hF : F me = some (rf_Fproduct )) {fl : Nat} {H : Heap} {Q : AV → Heap → Prop} (a0 : Int) (b1 : Int)
  (h : ∃ (J2 : Nat → Int → Int → Int → Prop) (k3 : Nat), J2 k3 a0 b1 0 ∧ (∀ (m4 : Nat) (a5 : Int) (b6 : Int) (sum9 : Int), J2 m4 a5 b6 sum9 → ((b6 > 0) → (((Int.tmod b6 2) = 1) → ∃ m10 : Nat, m10 < m4 ∧ J2 m10 (Int.tmod (IntKind.wrap .i64 (2 * a5)) 2305843009213693951) (IntKind.wrap .i64 (Int.tdiv b6 2)) (Int.tmod (IntKind.wrap .i64 (sum9 + a5)) 2305843009213693951)) ∧ (¬((Int.tmod b6 2) = 1) → ∃ m11 : Nat, m11 < m4 ∧ J2 m11 (Int.tmod (IntKind.wrap .i64 (2 * a5)) 2305843009213693951) (IntKind.wrap .i64 (Int.tdiv b6 2)) sum9)) ∧ (¬(b6 > 0) → Q (.int .i64 sum9) H))) : Ret F fl me [(.int .i64 a0), (.int .i64 b1)] H Q := by
  refine ret_intro hF rfl ?_
  refine w_seq ?_
  refine w_run [0] ?_
  refine t_done [(.int .i64 a0), (.int .i64 b1), (.int .i64 0), .undef, .undef, .undef] H (by kernel_rfl) ?_
  refine then_norm ?_
  refine w_seq ?_
  refine w_run [0] ?_
  refine t_done [(.int .i64 a0), (.int .i64 b1), (.int .i64 0), .undef, .undef, (.int .i64 0)] H (by kernel_rfl) ?_
  refine then_norm ?_
  refine w_seq ?_
  refine w_block ?_
  obtain ⟨J2, k3, h0, h⟩ := h
  refine w_loop (I := fun mI EI HI => ∃ (a5 : Int) (b6 : Int) (d7 : AV) (d8 : AV) (sum9 : Int), EI = [(.int .i64 a5), (.int .i64 b6), (.int .i64 0), d7, d8, (.int .i64 sum9)] ∧ H = HI ∧ J2 mI a5 b6 sum9) ?_ k3 ⟨_, _, _, _, _, rfl, rfl, h0⟩
  clear h0
  rintro m4 EI HI ⟨a5, b6, d7, d8, sum9, rfl, rfl, hJ⟩
  replace h := h m4 a5 b6 sum9  hJ
  clear hJ
  refine w_seq ?_
  refine w_seq ?_
  refine w_run [0, 0] ?_
  refine t_done [(.int .i64 a5), (.int .i64 b6), (.int .i64 0), (.bool (decide (b6 > 0))), d8, (.int .i64 sum9)] H (by kernel_rfl) ?_
  refine then_norm ?_
  refine w_cond (t := (decide (b6 > 0))) rfl (fun hc => ?_) (fun hc => ?_)
  · replace h := h.1 (is_dec.t hc)
    refine w_skip ?_
    refine then_norm ?_
    refine w_block ?_
    refine w_seq ?_
    refine w_seq ?_
    refine w_run [0, 1, 0] ?_
    refine t_rem true .no .i64 b6 2 H (by kernel_rfl) (by decide) ?_
    refine t_done [(.int .i64 a5), (.int .i64 b6), (.int .i64 0), (.bool (decide (b6 > 0))), (.bool (((Int.tmod b6 2)) == 1)), (.int .i64 sum9)] H (by kernel_rfl) ?_
    refine then_norm ?_
    refine w_cond (t := (((Int.tmod b6 2)) == 1)) rfl (fun hc => ?_) (fun hc => ?_)
    · replace h := h.1 (is_eq.t hc)
      refine w_run [0, 0, 0, 1, 0] ?_
      refine t_rem true .no .i64 (IntKind.wrap .i64 (sum9 + a5)) 2305843009213693951 H (by kernel_rfl) (by decide) ?_
      refine t_done [(.int .i64 a5), (.int .i64 b6), (.int .i64 0), (.bool (decide (b6 > 0))), (.bool (((Int.tmod b6 2)) == 1)), (.int .i64 (Int.tmod (IntKind.wrap .i64 (sum9 + a5)) 2305843009213693951))] H (by kernel_rfl) ?_
      refine then_norm ?_
      refine w_seq ?_
      refine w_run [0, 0, 1, 0] ?_
      refine t_rem true .no .i64 (IntKind.wrap .i64 (2 * a5)) 2305843009213693951 H (by kernel_rfl) (by decide) ?_
      refine t_done [(.int .i64 (Int.tmod (IntKind.wrap .i64 (2 * a5)) 2305843009213693951)), (.int .i64 b6), (.int .i64 0), (.bool (decide (b6 > 0))), (.bool (((Int.tmod b6 2)) == 1)), (.int .i64 (Int.tmod (IntKind.wrap .i64 (sum9 + a5)) 2305843009213693951))] H (by kernel_rfl) ?_
      refine then_norm ?_
      refine w_run [0, 1, 0] ?_
      refine t_quo true .no .i64 b6 2 H (by kernel_rfl) (by decide) ?_
      refine t_done [(.int .i64 (Int.tmod (IntKind.wrap .i64 (2 * a5)) 2305843009213693951)), (.int .i64 (IntKind.wrap .i64 (Int.tdiv b6 2))), (.int .i64 0), (.bool (decide (b6 > 0))), (.bool (((Int.tmod b6 2)) == 1)), (.int .i64 (Int.tmod (IntKind.wrap .i64 (sum9 + a5)) 2305843009213693951))] H (by kernel_rfl) ?_
      refine block_norm ?_
      obtain ⟨m', hm, h⟩ := h
      refine loop_norm ⟨m', hm, _, _, _, _, _, rfl, rfl, h⟩
    · replace h := h.2 (is_eq.f hc)
      refine w_skip ?_
      refine then_norm ?_
      refine w_seq ?_
      refine w_run [0, 0, 1, 0] ?_
      refine t_rem true .no .i64 (IntKind.wrap .i64 (2 * a5)) 2305843009213693951 H (by kernel_rfl) (by decide) ?_
      refine t_done [(.int .i64 (Int.tmod (IntKind.wrap .i64 (2 * a5)) 2305843009213693951)), (.int .i64 b6), (.int .i64 0), (.bool (decide (b6 > 0))), (.bool (((Int.tmod b6 2)) == 1)), (.int .i64 sum9)] H (by kernel_rfl) ?_
      refine then_norm ?_
      refine w_run [0, 1, 0] ?_
      refine t_quo true .no .i64 b6 2 H (by kernel_rfl) (by decide) ?_
      refine t_done [(.int .i64 (Int.tmod (IntKind.wrap .i64 (2 * a5)) 2305843009213693951)), (.int .i64 (IntKind.wrap .i64 (Int.tdiv b6 2))), (.int .i64 0), (.bool (decide (b6 > 0))), (.bool (((Int.tmod b6 2)) == 1)), (.int .i64 sum9)] H (by kernel_rfl) ?_
      refine block_norm ?_
      obtain ⟨m', hm, h⟩ := h
      refine loop_norm ⟨m', hm, _, _, _, _, _, rfl, rfl, h⟩
  · replace h := h.2 (is_dec.f hc)
    refine w_exit ?_
    refine then_exit ?_
    refine loop_exit ?_
    refine block_exit ?_
    refine then_norm ?_
    refine w_seq ?_
    refine w_run [0, 0] ?_
    refine t_done [(.int .i64 a5), (.int .i64 b6), (.int .i64 sum9), (.bool (decide (b6 > 0))), d8, (.int .i64 sum9)] H (by kernel_rfl) ?_
    refine then_norm ?_
    refine w_ret ?_
    exact body_ret (vs := [(.int .i64 sum9)]) _ (by kernel_rfl) rfl h

def rf_FEqualRecords : RFunc := ⟨2, 7, [.var 2],
 ((.seq (.ops [⟨.move (.k (.bool false)), none, (some 2), true⟩])
 ((.seq ((.seq (.ops [⟨.move (.var 0), none, none, true⟩, ⟨.len (.loc 0), none, none, true⟩, ⟨.move (.var 1), none, none, true⟩, ⟨.len (.loc 2), none, none, true⟩, ⟨.bin .neq .no (.loc 1) (.loc 3), none, (some 3), true⟩])
 (.cond (.var 3) ((.seq (.ops [⟨.move (.k (.bool false)), none, (some 2), true⟩])
 (.ret))) (.skip))))
 ((.seq ((.seq (.ops [⟨.move (.k (.int .i64 0)), none, (some 4), true⟩])
 (.block 0 (.loop ((.seq ((.seq (.ops [⟨.move (.var 4), none, none, true⟩, ⟨.move (.var 0), none, none, true⟩, ⟨.len (.loc 1), none, none, true⟩, ⟨.bin .lss .no (.loc 0) (.loc 2), none, (some 5), true⟩])
 (.cond (.var 5) (.skip) (.exit 0))))
 ((.seq (.block 1 ((.seq (.ops [⟨.move (.var 0), none, none, false⟩, ⟨.move (.var 4), none, none, false⟩, ⟨.indexAddr 4 (.loc 0) (.loc 1), none, none, false⟩, ⟨.load (some 4) (.loc 2), none, none, false⟩, ⟨.move (.var 1), none, none, false⟩, ⟨.move (.var 4), none, none, false⟩, ⟨.indexAddr 4 (.loc 4) (.loc 5), none, none, false⟩, ⟨.load (some 4) (.loc 6), none, none, false⟩, ⟨.bin .neq (.agg [.int, .int, .int, .int]) (.loc 3) (.loc 7), none, (some 6), true⟩])
 (.cond (.var 6) ((.seq (.ops [⟨.move (.k (.bool false)), none, (some 2), true⟩])
 (.ret))) (.skip)))))
 (.ops [⟨.move (.var 4), none, none, true⟩, ⟨.bin .add .no (.loc 0) (.k (.int .i64 1)), none, none, true⟩, ⟨.move (.loc 1), none, (some 4), true⟩])))))))))
 ((.seq (.ops [⟨.move (.k (.bool true)), none, (some 2), true⟩])
 (.ret))))))))), none⟩
theorem v_FEqualRecords {F : Nat → Option RFunc} {me : Nat} (hF : F me = some (rf_FEqualRecords )) {fl : Nat} {H : Heap} {Q : AV → Heap → Prop} (a0 : AV) (b1 : AV)
  (h : ∃ len2 : Nat, lenA a0 = some len2 ∧ ∃ len3 : Nat, lenA b1 = some len3 ∧ (((len2 : Int) ≠ (len3 : Int)) → Q (.bool false) H) ∧ (¬((len2 : Int) ≠ (len3 : Int)) → ∃ (J4 : Nat → Int → Prop) (k5 : Nat), J4 k5 0 ∧ (∀ (m6 : Nat) (i8 : Int), J4 m6 i8 → ∃ len11 : Nat, lenA a0 = some len11 ∧ ((i8 < (len11 : Int)) → ∃ (e12 : Int) (e13 : Int) (e14 : Int) (e15 : Int), getA H 4 (some 4) a0 i8 0 = some (.agg [(.int .i64 e12), (.int .i64 e13), (.int .i64 e14), (.int .i64 e15)]) ∧ ∃ (e17 : Int) (e18 : Int) (e19 : Int) (e20 : Int), getA H 4 (some 4) b1 i8 0 = some (.agg [(.int .i64 e17), (.int .i64 e18), (.int .i64 e19), (.int .i64 e20)]) ∧ ((¬(((e12 = e17) ∧ (((e13 = e18) ∧ (((e14 = e19) ∧ (((e15 = e20) ∧ (True)))))))))) → Q (.bool false) H) ∧ (¬(¬(((e12 = e17) ∧ (((e13 = e18) ∧ (((e14 = e19) ∧ (((e15 = e20) ∧ (True)))))))))) → ∃ m22 : Nat, m22 < m6 ∧ J4 m22 (IntKind.wrap .i64 (i8 + 1)))) ∧ (¬(i8 < (len11 : Int)) → Q (.bool true) H)))) : Ret F fl me [a0, b1] H Q := by
  refine ret_intro hF rfl ?_
  refine w_seq ?_
  refine w_run [0] ?_
  refine t_done [a0, b1, (.bool false), .undef, .undef, .undef, .undef] H (by kernel_rfl) ?_
  refine then_norm ?_
  refine w_seq ?_
  refine w_seq ?_
  refine w_run [0, 1, 0, 1, 0] ?_
  obtain ⟨len2, hl, h⟩ := h
  refine t_len true a0 len2 H (by kernel_rfl) hl ?_
  obtain ⟨len3, hl, h⟩ := h
  refine t_len true b1 len3 H (by kernel_rfl) hl ?_
  refine t_done [a0, b1, (.bool false), (.bool (((len2 : Int)) != (len3 : Int))), .undef, .undef, .undef] H (by kernel_rfl) ?_
  refine then_norm ?_
  refine w_cond (t := (((len2 : Int)) != (len3 : Int))) rfl (fun hc => ?_) (fun hc => ?_)
  · replace h := h.1 (is_ne.t hc)
    refine w_seq ?_
    refine w_run [0] ?_
    refine t_done [a0, b1, (.bool false), (.bool (((len2 : Int)) != (len3 : Int))), .undef, .undef, .undef] H (by kernel_rfl) ?_
    refine then_norm ?_
    refine w_ret ?_
    refine then_ret ?_
    exact body_ret (vs := [(.bool false)]) _ (by kernel_rfl) rfl h
  · replace h := h.2 (is_ne.f hc)
    refine w_skip ?_
    refine then_norm ?_
    refine w_seq ?_
    refine w_seq ?_
    refine w_run [0] ?_
    refine t_done [a0, b1, (.bool false), (.bool (((len2 : Int)) != (len3 : Int))), (.int .i64 0), .undef, .undef] H (by kernel_rfl) ?_
    refine then_norm ?_
    refine w_block ?_
    obtain ⟨J4, k5, h0, h⟩ := h
    refine w_loop (I := fun mI EI HI => ∃ (d7 : AV) (i8 : Int) (d9 : AV) (d10 : AV), EI = [a0, b1, d7, (.bool (((len2 : Int)) != (len3 : Int))), (.int .i64 i8), d9, d10] ∧ H = HI ∧ J4 mI i8) ?_ k5 ⟨_, _, _, _, rfl, rfl, h0⟩
    clear h0
    rintro m6 EI HI ⟨d7, i8, d9, d10, rfl, rfl, hJ⟩
    replace h := h m6 i8  hJ
    clear hJ
    refine w_seq ?_
    refine w_seq ?_
    refine w_run [0, 0, 1, 0] ?_
    obtain ⟨len11, hl, h⟩ := h
    refine t_len true a0 len11 H (by kernel_rfl) hl ?_
    refine t_done [a0, b1, d7, (.bool (((len2 : Int)) != (len3 : Int))), (.int .i64 i8), (.bool (decide (i8 < (len11 : Int)))), d10] H (by kernel_rfl) ?_
    refine then_norm ?_
    refine w_cond (t := (decide (i8 < (len11 : Int)))) rfl (fun hc => ?_) (fun hc => ?_)
    · replace h := h.1 (is_dec.t hc)
      refine w_skip ?_
      refine then_norm ?_
      refine w_seq ?_
      refine w_block ?_
      refine w_seq ?_
      refine w_run [0, 0, 1, 1, 0, 0, 1, 1, 0] ?_
      obtain ⟨e12, e13, e14, e15, hg16, h⟩ := h
      refine t_idxG false 4 a0 .i64 i8 H (by kernel_rfl) hg16 ?_
      refine t_loadG false (some 4) 4 a0 i8 0 (.agg [(.int .i64 e12), (.int .i64 e13), (.int .i64 e14), (.int .i64 e15)]) H (by kernel_rfl) hg16 ?_
      obtain ⟨e17, e18, e19, e20, hg21, h⟩ := h
      refine t_idxG false 4 b1 .i64 i8 H (by kernel_rfl) hg21 ?_
      refine t_loadG false (some 4) 4 b1 i8 0 (.agg [(.int .i64 e17), (.int .i64 e18), (.int .i64 e19), (.int .i64 e20)]) H (by kernel_rfl) hg21 ?_
      refine t_done [a0, b1, d7, (.bool (((len2 : Int)) != (len3 : Int))), (.int .i64 i8), (.bool (decide (i8 < (len11 : Int)))), (.bool (!(((e12) == e17) && (((e13) == e18) && (((e14) == e19) && (((e15) == e20) && true))))))] H (by kernel_rfl) ?_
      refine then_norm ?_
      refine w_cond (t := (!(((e12) == e17) && (((e13) == e18) && (((e14) == e19) && (((e15) == e20) && true)))))) rfl (fun hc => ?_) (fun hc => ?_)
      · replace h := h.1 ((is_not (is_and is_eq (is_and is_eq (is_and is_eq (is_and is_eq is_true))))).t hc)
        refine w_seq ?_
        refine w_run [0] ?_
        refine t_done [a0, b1, (.bool false), (.bool (((len2 : Int)) != (len3 : Int))), (.int .i64 i8), (.bool (decide (i8 < (len11 : Int)))), (.bool (!(((e12) == e17) && (((e13) == e18) && (((e14) == e19) && (((e15) == e20) && true))))))] H (by kernel_rfl) ?_
        refine then_norm ?_
        refine w_ret ?_
        refine block_ret ?_
        refine then_ret ?_
        refine loop_ret ?_
        refine block_ret ?_
        refine then_ret ?_
        exact body_ret (vs := [(.bool false)]) _ (by kernel_rfl) rfl h
      · replace h := h.2 ((is_not (is_and is_eq (is_and is_eq (is_and is_eq (is_and is_eq is_true))))).f hc)
        refine w_skip ?_
        refine block_norm ?_
        refine then_norm ?_
        refine w_run [0, 0, 0] ?_
        refine t_done [a0, b1, d7, (.bool (((len2 : Int)) != (len3 : Int))), (.int .i64 (IntKind.wrap .i64 (i8 + 1))), (.bool (decide (i8 < (len11 : Int)))), (.bool (!(((e12) == e17) && (((e13) == e18) && (((e14) == e19) && (((e15) == e20) && true))))))] H (by kernel_rfl) ?_
        obtain ⟨m', hm, h⟩ := h
        refine loop_norm ⟨m', hm, _, _, _, _, rfl, rfl, h⟩
    · replace h := h.2 (is_dec.f hc)
      refine w_exit ?_
      refine then_exit ?_
      refine loop_exit ?_
      refine block_exit ?_
      refine then_norm ?_
      refine w_seq ?_
      refine w_run [0] ?_
      refine t_done [a0, b1, (.bool true), (.bool (((len2 : Int)) != (len3 : Int))), (.int .i64 i8), (.bool (decide (i8 < (len11 : Int)))), d10] H (by kernel_rfl) ?_
      refine then_norm ?_
      refine w_ret ?_
      exact body_ret (vs := [(.bool true)]) _ (by kernel_rfl) rfl h

end Go.RM

