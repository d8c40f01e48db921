import Derived.Test.YtceemplcjkjphaaRmOpt3
/-
  Functions of the program as the abstract machine runs them, and what must be shown of a run: printed by RmPrint.
-/
namespace Go.RM
set_option linter.unusedVariables false
set_option maxRecDepth 4000
def rf_FProcessesFault (nFFault nFOpCode : Nat) : RFunc := ⟨2, 14, [.part 2 (some 2)],
 ((.seq (.ops [⟨.tomb 1 (.k (.agg [.int .i64 0, .int .i64 0])), none, (some 2), true⟩])
 ((.seq ((.seq (.ops [⟨.move (.var 0), none, none, true⟩, ⟨.len (.loc 0), none, none, true⟩, ⟨.bin .gtr .no (.loc 1) (.k (.int .i64 4)), none, (some 3), true⟩])
 (.cond (.var 3) ((.seq (.ops [⟨.callS nFFault [(.k (.int .i64 2)), (.k (.int .i64 (-1)))], none, none, true⟩, ⟨.upd 2 0 (.var 2) (.loc 0), none, (some 2), true⟩])
 (.ret))) (.skip))))
 ((.seq ((.seq (.ops [⟨.move (.var 1), none, none, true⟩, ⟨.len (.loc 0), none, none, true⟩, ⟨.bin .gtr .no (.loc 1) (.k (.int .i64 5)), none, (some 4), true⟩])
 (.cond (.var 4) ((.seq (.ops [⟨.callS nFFault [(.k (.int .i64 2)), (.k (.int .i64 (-2)))], none, none, true⟩, ⟨.upd 2 0 (.var 2) (.loc 0), none, (some 2), true⟩])
 (.ret))) (.skip))))
 ((.seq ((.seq (.ops [⟨.move (.k (.int .i64 0)), none, (some 5), true⟩])
 (.block 0 (.loop ((.seq ((.seq (.ops [⟨.move (.var 5), none, none, true⟩, ⟨.move (.var 0), none, none, true⟩, ⟨.len (.loc 1), none, none, true⟩, ⟨.bin .lss .no (.loc 0) (.loc 2), none, (some 6), true⟩])
 (.cond (.var 6) (.skip) (.exit 0))))
 ((.seq (.block 1 ((.seq (.ops [⟨.move (.var 0), none, none, true⟩, ⟨.move (.var 5), none, none, true⟩, ⟨.indexAddr 1 (.loc 0) (.loc 1), none, none, true⟩, ⟨.load none (.loc 2), none, none, true⟩, ⟨.bin .lss .no (.loc 3) (.k (.int .i64 1)), none, none, true⟩, ⟨.move (.loc 4), none, none, true⟩, ⟨.move (.var 0), none, none, true⟩, ⟨.move (.var 5), none, none, true⟩, ⟨.indexAddr 1 (.loc 6) (.loc 7), (some (5, false)), none, true⟩, ⟨.load none (.loc 8), (some (5, false)), none, true⟩, ⟨.bin .gtr .no (.loc 9) (.k (.int .i64 4)), (some (5, false)), none, true⟩, ⟨.pick (.loc 5) (.k (.bool true)) (.loc 10), none, (some 7), true⟩])
 (.cond (.var 7) ((.seq (.ops [⟨.move (.var 5), none, none, true⟩, ⟨.bin .sub .no (.k (.int .i64 (-3))) (.loc 0), none, none, true⟩, ⟨.callS nFFault [(.k (.int .i64 3)), (.loc 1)], none, none, true⟩, ⟨.upd 2 0 (.var 2) (.loc 2), none, (some 2), true⟩])
 (.ret))) (.skip)))))
 (.ops [⟨.move (.var 5), none, none, true⟩, ⟨.bin .add .no (.loc 0) (.k (.int .i64 1)), none, none, true⟩, ⟨.move (.loc 1), none, (some 5), true⟩])))))))))
 ((.seq ((.seq (.ops [⟨.move (.k (.int .i64 0)), none, (some 8), true⟩])
 (.block 2 (.loop ((.seq ((.seq (.ops [⟨.move (.var 8), none, none, true⟩, ⟨.move (.var 1), none, none, true⟩, ⟨.len (.loc 1), none, none, true⟩, ⟨.bin .lss .no (.loc 0) (.loc 2), none, (some 9), true⟩])
 (.cond (.var 9) (.skip) (.exit 2))))
 ((.seq (.block 3 ((.seq ((.seq (.ops [⟨.move (.var 1), none, none, true⟩, ⟨.move (.var 8), none, none, true⟩, ⟨.indexAddr 1 (.loc 0) (.loc 1), none, none, true⟩, ⟨.load none (.loc 2), none, none, true⟩, ⟨.len (.loc 3), none, none, true⟩, ⟨.bin .gtr .no (.loc 4) (.k (.int .i64 8)), none, (some 10), true⟩])
 (.cond (.var 10) ((.seq (.ops [⟨.move (.var 8), none, none, true⟩, ⟨.callS nFFault [(.k (.int .i64 2)), (.loc 0)], none, none, true⟩, ⟨.upd 2 0 (.var 2) (.loc 1), none, (some 2), true⟩])
 (.ret))) (.skip))))
 ((.seq (.ops [⟨.move (.k (.int .i64 0)), none, (some 11), true⟩])
 (.block 4 (.loop ((.seq ((.seq (.ops [⟨.move (.var 11), none, none, true⟩, ⟨.move (.var 1), none, none, true⟩, ⟨.move (.var 8), none, none, true⟩, ⟨.indexAddr 1 (.loc 1) (.loc 2), none, none, true⟩, ⟨.load none (.loc 3), none, none, true⟩, ⟨.len (.loc 4), none, none, true⟩, ⟨.bin .lss .no (.loc 0) (.loc 5), none, (some 12), true⟩])
 (.cond (.var 12) (.skip) (.exit 4))))
 ((.seq (.block 5 ((.seq (.ops [⟨.move (.var 1), none, none, true⟩, ⟨.move (.var 8), none, none, true⟩, ⟨.indexAddr 1 (.loc 0) (.loc 1), none, none, true⟩, ⟨.load none (.loc 2), none, none, true⟩, ⟨.move (.var 11), none, none, true⟩, ⟨.indexAddr 5 (.loc 3) (.loc 4), none, none, true⟩, ⟨.load (some 5) (.loc 5), none, none, true⟩, ⟨.move (.var 0), none, none, true⟩, ⟨.len (.loc 7), none, none, true⟩, ⟨.callS nFOpCode [(.loc 6), (.loc 8)], none, none, true⟩, ⟨.bin .neq .no (.loc 9) (.k (.int .i64 0)), none, (some 13), true⟩])
 (.cond (.var 13) ((.seq (.ops [⟨.move (.var 1), none, none, true⟩, ⟨.move (.var 8), none, none, true⟩, ⟨.indexAddr 1 (.loc 0) (.loc 1), none, none, true⟩, ⟨.load none (.loc 2), none, none, true⟩, ⟨.move (.var 11), none, none, true⟩, ⟨.indexAddr 5 (.loc 3) (.loc 4), none, none, true⟩, ⟨.load (some 5) (.loc 5), none, none, true⟩, ⟨.move (.var 0), none, none, true⟩, ⟨.len (.loc 7), none, none, true⟩, ⟨.callS nFOpCode [(.loc 6), (.loc 8)], none, none, true⟩, ⟨.move (.var 8), none, none, true⟩, ⟨.callS nFFault [(.loc 9), (.loc 10)], none, none, true⟩, ⟨.upd 2 0 (.var 2) (.loc 11), none, (some 2), true⟩])
 (.ret))) (.skip)))))
 (.ops [⟨.move (.var 11), none, none, true⟩, ⟨.bin .add .no (.loc 0) (.k (.int .i64 1)), none, none, true⟩, ⟨.move (.loc 1), none, (some 11), true⟩]))))))))))))
 (.ops [⟨.move (.var 8), none, none, true⟩, ⟨.bin .add .no (.loc 0) (.k (.int .i64 1)), none, none, true⟩, ⟨.move (.loc 1), none, (some 8), true⟩])))))))))
 ((.seq (.ops [⟨.callS nFFault [(.k (.int .i64 0)), (.k (.int .i64 0))], none, none, true⟩, ⟨.upd 2 0 (.var 2) (.loc 0), none, (some 2), true⟩])
 (.ret))))))))))))), none⟩
theorem v_FProcessesFault {F : Nat → Option RFunc} {me nFFault nFOpCode : Nat} (hF : F me = some (rf_FProcessesFault nFFault nFOpCode)) {fl : Nat} {H : Heap} {Q : AV → Heap → Prop} (capacities0 : AV) (scripts1 : AV)
  (h : ∀ (H2 : Heap), Dead1 H 1 H2 → ∃ len3 : Nat, lenA capacities0 = some len3 ∧ (((len3 : Int) > 4) → Ret F fl nFFault [(.int .i64 2), (.int .i64 (-1))] H2 (fun v7 H6 => ∃ (r4 : Int) (r5 : Int), v7 = (.agg [(.int .i64 r4), (.int .i64 r5)]) ∧ Q (.agg [(.int .i64 r4), (.int .i64 r5)]) H6)) ∧ (¬((len3 : Int) > 4) → ∃ len8 : Nat, lenA scripts1 = some len8 ∧ (((len8 : Int) > 5) → Ret F fl nFFault [(.int .i64 2), (.int .i64 (-2))] H2 (fun v12 H11 => ∃ (r9 : Int) (r10 : Int), v12 = (.agg [(.int .i64 r9), (.int .i64 r10)]) ∧ Q (.agg [(.int .i64 r9), (.int .i64 r10)]) H11)) ∧ (¬((len8 : Int) > 5) → ∃ (J13 : Nat → Int → Int → Int → Heap → Prop) (k14 : Nat), J13 k14 0 0 0 H2 ∧ (∀ (m15 : Nat) (v16 : Int) (v17 : Int) (i18 : Int) (H21 : Heap), J13 m15 v16 v17 i18 H21 → ∃ len22 : Nat, lenA capacities0 = some len22 ∧ ((i18 < (len22 : Int)) → ∃ (e23 : Int), getA H21 1 none capacities0 i18 0 = some (.int .i64 e23) ∧ ((e23 < 1) → Ret F fl nFFault [(.int .i64 3), (.int .i64 (IntKind.wrap .i64 ((-3) - i18)))] H21 (fun v35 H34 => ∃ (r32 : Int) (r33 : Int), v35 = (.agg [(.int .i64 r32), (.int .i64 r33)]) ∧ Q (.agg [(.int .i64 r32), (.int .i64 r33)]) H34)) ∧ (¬(e23 < 1) → ∃ (e25 : Int), getA H21 1 none capacities0 i18 0 = some (.int .i64 e25) ∧ ((e25 > 4) → Ret F fl nFFault [(.int .i64 3), (.int .i64 (IntKind.wrap .i64 ((-3) - i18)))] H21 (fun v30 H29 => ∃ (r27 : Int) (r28 : Int), v30 = (.agg [(.int .i64 r27), (.int .i64 r28)]) ∧ Q (.agg [(.int .i64 r27), (.int .i64 r28)]) H29)) ∧ (¬(e25 > 4) → ∃ m31 : Nat, m31 < m15 ∧ J13 m31 v16 v17 (IntKind.wrap .i64 (i18 + 1)) H21))) ∧ (¬(i18 < (len22 : Int)) → ∃ (J36 : Nat → Int → Int → Int → Heap → Prop) (k37 : Nat), J36 k37 v16 v17 0 H21 ∧ (∀ (m38 : Nat) (v39 : Int) (v40 : Int) (i41 : Int) (H47 : Heap), J36 m38 v39 v40 i41 H47 → ∃ len48 : Nat, lenA scripts1 = some len48 ∧ ((i41 < (len48 : Int)) → ∃ (e49 : AV), getA H47 1 none scripts1 i41 0 = some e49 ∧ ∃ len51 : Nat, lenA e49 = some len51 ∧ (((len51 : Int) > 8) → Ret F fl nFFault [(.int .i64 2), (.int .i64 i41)] H47 (fun v55 H54 => ∃ (r52 : Int) (r53 : Int), v55 = (.agg [(.int .i64 r52), (.int .i64 r53)]) ∧ Q (.agg [(.int .i64 r52), (.int .i64 r53)]) H54)) ∧ (¬((len51 : Int) > 8) → ∃ (J56 : Nat → Int → Int → Int → Heap → Prop) (k57 : Nat), J56 k57 v39 v40 0 H47 ∧ (∀ (m58 : Nat) (v59 : Int) (v60 : Int) (k61 : Int) (H64 : Heap), J56 m58 v59 v60 k61 H64 → ∃ (e65 : AV), getA H64 1 none scripts1 i41 0 = some e65 ∧ ∃ len67 : Nat, lenA e65 = some len67 ∧ ((k61 < (len67 : Int)) → ∃ (e68 : AV), getA H64 1 none scripts1 i41 0 = some e68 ∧ ∃ (e70 : Int) (e71 : Int) (e72 : Int) (e73 : Int) (e74 : AV), getA H64 5 (some 5) e68 k61 0 = some (.agg [(.int .i64 e70), (.int .i64 e71), (.int .i64 e72), (.int .i64 e73), e74]) ∧ ∃ len76 : Nat, lenA capacities0 = some len76 ∧ Ret F fl nFOpCode [(.agg [(.int .i64 e70), (.int .i64 e71), (.int .i64 e72), (.int .i64 e73), e74]), (.int .i64 (len76 : Int))] H64 (fun v79 H78 => ∃ (r77 : Int), v79 = (.int .i64 r77) ∧ ((r77 ≠ 0) → ∃ (e80 : AV), getA H78 1 none scripts1 i41 0 = some e80 ∧ ∃ (e82 : Int) (e83 : Int) (e84 : Int) (e85 : Int) (e86 : AV), getA H78 5 (some 5) e80 k61 0 = some (.agg [(.int .i64 e82), (.int .i64 e83), (.int .i64 e84), (.int .i64 e85), e86]) ∧ ∃ len88 : Nat, lenA capacities0 = some len88 ∧ Ret F fl nFOpCode [(.agg [(.int .i64 e82), (.int .i64 e83), (.int .i64 e84), (.int .i64 e85), e86]), (.int .i64 (len88 : Int))] H78 (fun v91 H90 => ∃ (r89 : Int), v91 = (.int .i64 r89) ∧ Ret F fl nFFault [(.int .i64 r89), (.int .i64 i41)] H90 (fun v95 H94 => ∃ (r92 : Int) (r93 : Int), v95 = (.agg [(.int .i64 r92), (.int .i64 r93)]) ∧ Q (.agg [(.int .i64 r92), (.int .i64 r93)]) H94))) ∧ (¬(r77 ≠ 0) → ∃ m96 : Nat, m96 < m58 ∧ J56 m96 v59 v60 (IntKind.wrap .i64 (k61 + 1)) H78))) ∧ (¬(k61 < (len67 : Int)) → ∃ m97 : Nat, m97 < m38 ∧ J36 m97 v59 v60 (IntKind.wrap .i64 (i41 + 1)) H64)))) ∧ (¬(i41 < (len48 : Int)) → Ret F fl nFFault [(.int .i64 0), (.int .i64 0)] H47 (fun v101 H100 => ∃ (r98 : Int) (r99 : Int), v101 = (.agg [(.int .i64 r98), (.int .i64 r99)]) ∧ Q (.agg [(.int .i64 r98), (.int .i64 r99)]) H100)))))))) : Ret F fl me [capacities0, scripts1] H Q := by
  refine ret_intro hF rfl ?_
  refine w_seq ?_
  refine w_run [1] ?_
  obtain ⟨H2, hb⟩ : ∃ H', Dead1 H 1 H' := ⟨_, ⟨rfl⟩⟩
  replace h := h H2 hb
  refine t_tomb true 1 (.agg [(.int .i64 0), (.int .i64 0)]) [(.int .i64 0), (.int .i64 0)] H2 H (by kernel_rfl) rfl hb ?_
  refine t_done [capacities0, scripts1, (.agg [(.int .i64 0), (.int .i64 0)]), .undef, .undef, .undef, .undef, .undef, .undef, .undef, .undef, .undef, .undef, .undef] H2 (by kernel_rfl) ?_
  refine then_norm ?_
  refine w_seq ?_
  refine w_seq ?_
  refine w_run [0, 1, 0] ?_
  obtain ⟨len3, hl, h⟩ := h
  refine t_len true capacities0 len3 H2 (by kernel_rfl) hl ?_
  refine t_done [capacities0, scripts1, (.agg [(.int .i64 0), (.int .i64 0)]), (.bool (decide ((len3 : Int) > 4))), .undef, .undef, .undef, .undef, .undef, .undef, .undef, .undef, .undef, .undef] H2 (by kernel_rfl) ?_
  refine then_norm ?_
  refine w_cond (t := (decide ((len3 : Int) > 4))) rfl (fun hc => ?_) (fun hc => ?_)
  · replace h := h.1 (is_dec.t hc)
    refine w_seq ?_
    refine w_run [1, 1] ?_
    refine t_call true nFFault [(.int .i64 2), (.int .i64 (-1))] H2 (by kernel_rfl) h ?_
    clear h
    rintro _ H6 ⟨r4, r5, rfl, h⟩
    refine t_upd true 2 0 [(.int .i64 0), (.int .i64 0)] (.agg [(.int .i64 r4), (.int .i64 r5)]) [(.int .i64 r4), (.int .i64 r5)] [(.int .i64 r4), (.int .i64 r5)] H6 (by kernel_rfl) rfl (all_c rfl (all_c rfl all_n)) ⟨rfl, Nat.le_of_ble_eq_true (by kernel_rfl), rfl⟩ ?_
    refine t_done [capacities0, scripts1, (.agg [(.int .i64 r4), (.int .i64 r5)]), (.bool (decide ((len3 : Int) > 4))), .undef, .undef, .undef, .undef, .undef, .undef, .undef, .undef, .undef, .undef] H6 (by kernel_rfl) ?_
    refine then_norm ?_
    refine w_ret ?_
    refine then_ret ?_
    exact body_ret (vs := [(.agg [(.int .i64 r4), (.int .i64 r5)])]) _ (by kernel_rfl) rfl h
  · replace h := h.2 (is_dec.f hc)
    refine w_skip ?_
    refine then_norm ?_
    refine w_seq ?_
    refine w_seq ?_
    refine w_run [0, 1, 0] ?_
    obtain ⟨len8, hl, h⟩ := h
    refine t_len true scripts1 len8 H2 (by kernel_rfl) hl ?_
    refine t_done [capacities0, scripts1, (.agg [(.int .i64 0), (.int .i64 0)]), (.bool (decide ((len3 : Int) > 4))), (.bool (decide ((len8 : Int) > 5))), .undef, .undef, .undef, .undef, .undef, .undef, .undef, .undef, .undef] H2 (by kernel_rfl) ?_
    refine then_norm ?_
    refine w_cond (t := (decide ((len8 : Int) > 5))) rfl (fun hc => ?_) (fun hc => ?_)
    · replace h := h.1 (is_dec.t hc)
      refine w_seq ?_
      refine w_run [1, 1] ?_
      refine t_call true nFFault [(.int .i64 2), (.int .i64 (-2))] H2 (by kernel_rfl) h ?_
      clear h
      rintro _ H11 ⟨r9, r10, rfl, h⟩
      refine t_upd true 2 0 [(.int .i64 0), (.int .i64 0)] (.agg [(.int .i64 r9), (.int .i64 r10)]) [(.int .i64 r9), (.int .i64 r10)] [(.int .i64 r9), (.int .i64 r10)] H11 (by kernel_rfl) rfl (all_c rfl (all_c rfl all_n)) ⟨rfl, Nat.le_of_ble_eq_true (by kernel_rfl), rfl⟩ ?_
      refine t_done [capacities0, scripts1, (.agg [(.int .i64 r9), (.int .i64 r10)]), (.bool (decide ((len3 : Int) > 4))), (.bool (decide ((len8 : Int) > 5))), .undef, .undef, .undef, .undef, .undef, .undef, .undef, .undef, .undef] H11 (by kernel_rfl) ?_
      refine then_norm ?_
      refine w_ret ?_
      refine then_ret ?_
      exact body_ret (vs := [(.agg [(.int .i64 r9), (.int .i64 r10)])]) _ (by kernel_rfl) rfl h
    · replace h := h.2 (is_dec.f hc)
      refine w_skip ?_
      refine then_norm ?_
      refine w_seq ?_
      refine w_seq ?_
      refine w_run [0] ?_
      refine t_done [capacities0, scripts1, (.agg [(.int .i64 0), (.int .i64 0)]), (.bool (decide ((len3 : Int) > 4))), (.bool (decide ((len8 : Int) > 5))), (.int .i64 0), .undef, .undef, .undef, .undef, .undef, .undef, .undef, .undef] H2 (by kernel_rfl) ?_
      refine then_norm ?_
      refine w_block ?_
      obtain ⟨J13, k14, h0, h⟩ := h
      refine w_loop (I := fun mI EI HI => ∃ (v16 : Int) (v17 : Int) (i18 : Int) (d19 : AV) (d20 : AV), EI = [capacities0, scripts1, (.agg [(.int .i64 v16), (.int .i64 v17)]), (.bool (decide ((len3 : Int) > 4))), (.bool (decide ((len8 : Int) > 5))), (.int .i64 i18), d19, d20, .undef, .undef, .undef, .undef, .undef, .undef] ∧ J13 mI v16 v17 i18 HI) ?_ k14 ⟨_, _, _, _, _, rfl, h0⟩
      clear h0
      rintro m15 EI H21 ⟨v16, v17, i18, d19, d20, rfl, hJ⟩
      replace h := h m15 v16 v17 i18 H21 hJ
      clear hJ
      refine w_seq ?_
      refine w_seq ?_
      refine w_run [0, 0, 1, 0] ?_
      obtain ⟨len22, hl, h⟩ := h
      refine t_len true capacities0 len22 H21 (by kernel_rfl) hl ?_
      refine t_done [capacities0, scripts1, (.agg [(.int .i64 v16), (.int .i64 v17)]), (.bool (decide ((len3 : Int) > 4))), (.bool (decide ((len8 : Int) > 5))), (.int .i64 i18), (.bool (decide (i18 < (len22 : Int)))), d20, .undef, .undef, .undef, .undef, .undef, .undef] H21 (by kernel_rfl) ?_
      refine then_norm ?_
      refine w_cond (t := (decide (i18 < (len22 : Int)))) rfl (fun hc => ?_) (fun hc => ?_)
      · replace h := h.1 (is_dec.t hc)
        refine w_skip ?_
        refine then_norm ?_
        refine w_seq ?_
        refine w_block ?_
        refine w_seq ?_
        refine w_run [0, 0, 1, 1, 0, 0, 0, 0, 3, 3, 2, 0] ?_
        obtain ⟨e23, hg24, h⟩ := h
        refine t_idxG true 1 capacities0 .i64 i18 H21 (by kernel_rfl) hg24 ?_
        refine t_loadG true none 1 capacities0 i18 0 (.int .i64 e23) H21 (by kernel_rfl) hg24 ?_
        refine t_gd (decide (e23 < 1)) false (by kernel_rfl) (fun hc => ?_) (fun hc => ?_)
        · replace h := h.2 (is_dec.f hc)
          obtain ⟨e25, hg26, h⟩ := h
          refine t_idxG true 1 capacities0 .i64 i18 H21 (by kernel_rfl) hg26 ?_
          refine t_gd false false (by kernel_rfl) (fun _ => ?_) (fun hn => by cases hn)
          refine t_loadG true none 1 capacities0 i18 0 (.int .i64 e25) H21 (by kernel_rfl) hg26 ?_
          refine t_gd false false (by kernel_rfl) (fun _ => ?_) (fun hn => by cases hn)
          refine t_done [capacities0, scripts1, (.agg [(.int .i64 v16), (.int .i64 v17)]), (.bool (decide ((len3 : Int) > 4))), (.bool (decide ((len8 : Int) > 5))), (.int .i64 i18), (.bool (decide (i18 < (len22 : Int)))), (.bool (decide (e25 > 4))), .undef, .undef, .undef, .undef, .undef, .undef] H21 (by kernel_rfl) ?_
          refine then_norm ?_
          refine w_cond (t := (decide (e25 > 4))) rfl (fun hc => ?_) (fun hc => ?_)
          · replace h := h.1 (is_dec.t hc)
            refine w_seq ?_
            refine w_run [0, 0, 1, 1] ?_
            refine t_call true nFFault [(.int .i64 3), (.int .i64 (IntKind.wrap .i64 ((-3) - i18)))] H21 (by kernel_rfl) h ?_
            clear h
            rintro _ H29 ⟨r27, r28, rfl, h⟩
            refine t_upd true 2 0 [(.int .i64 v16), (.int .i64 v17)] (.agg [(.int .i64 r27), (.int .i64 r28)]) [(.int .i64 r27), (.int .i64 r28)] [(.int .i64 r27), (.int .i64 r28)] H29 (by kernel_rfl) rfl (all_c rfl (all_c rfl all_n)) ⟨rfl, Nat.le_of_ble_eq_true (by kernel_rfl), rfl⟩ ?_
            refine t_done [capacities0, scripts1, (.agg [(.int .i64 r27), (.int .i64 r28)]), (.bool (decide ((len3 : Int) > 4))), (.bool (decide ((len8 : Int) > 5))), (.int .i64 i18), (.bool (decide (i18 < (len22 : Int)))), (.bool (decide (e25 > 4))), .undef, .undef, .undef, .undef, .undef, .undef] H29 (by kernel_rfl) ?_
            refine then_norm ?_
            refine w_ret ?_
            refine block_ret ?_
            refine then_ret ?_
            refine loop_ret ?_
            refine block_ret ?_
            refine then_ret ?_
            exact body_ret (vs := [(.agg [(.int .i64 r27), (.int .i64 r28)])]) _ (by kernel_rfl) rfl h
          · replace h := h.2 (is_dec.f hc)
            refine w_skip ?_
            refine block_norm ?_
            refine then_norm ?_
            refine w_run [0, 0, 0] ?_
            refine t_done [capacities0, scripts1, (.agg [(.int .i64 v16), (.int .i64 v17)]), (.bool (decide ((len3 : Int) > 4))), (.bool (decide ((len8 : Int) > 5))), (.int .i64 (IntKind.wrap .i64 (i18 + 1))), (.bool (decide (i18 < (len22 : Int)))), (.bool (decide (e25 > 4))), .undef, .undef, .undef, .undef, .undef, .undef] H21 (by kernel_rfl) ?_
            obtain ⟨m', hm, h⟩ := h
            refine loop_norm ⟨m', hm, _, _, _, _, _, rfl, h⟩
        · replace h := h.1 (is_dec.t hc)
          refine t_gd true false (by kernel_rfl) (fun hn => by cases hn) (fun _ => ?_)
          refine t_gd true false (by kernel_rfl) (fun hn => by cases hn) (fun _ => ?_)
          refine t_done [capacities0, scripts1, (.agg [(.int .i64 v16), (.int .i64 v17)]), (.bool (decide ((len3 : Int) > 4))), (.bool (decide ((len8 : Int) > 5))), (.int .i64 i18), (.bool (decide (i18 < (len22 : Int)))), (.bool true), .undef, .undef, .undef, .undef, .undef, .undef] H21 (by kernel_rfl) ?_
          refine then_norm ?_
          refine w_cond (t := true) rfl (fun _ => ?_) (fun hc => by cases hc)
          refine w_seq ?_
          refine w_run [0, 0, 1, 1] ?_
          refine t_call true nFFault [(.int .i64 3), (.int .i64 (IntKind.wrap .i64 ((-3) - i18)))] H21 (by kernel_rfl) h ?_
          clear h
          rintro _ H34 ⟨r32, r33, rfl, h⟩
          refine t_upd true 2 0 [(.int .i64 v16), (.int .i64 v17)] (.agg [(.int .i64 r32), (.int .i64 r33)]) [(.int .i64 r32), (.int .i64 r33)] [(.int .i64 r32), (.int .i64 r33)] H34 (by kernel_rfl) rfl (all_c rfl (all_c rfl all_n)) ⟨rfl, Nat.le_of_ble_eq_true (by kernel_rfl), rfl⟩ ?_
          refine t_done [capacities0, scripts1, (.agg [(.int .i64 r32), (.int .i64 r33)]), (.bool (decide ((len3 : Int) > 4))), (.bool (decide ((len8 : Int) > 5))), (.int .i64 i18), (.bool (decide (i18 < (len22 : Int)))), (.bool true), .undef, .undef, .undef, .undef, .undef, .undef] H34 (by kernel_rfl) ?_
          refine then_norm ?_
          refine w_ret ?_
          refine block_ret ?_
          refine then_ret ?_
          refine loop_ret ?_
          refine block_ret ?_
          refine then_ret ?_
          exact body_ret (vs := [(.agg [(.int .i64 r32), (.int .i64 r33)])]) _ (by kernel_rfl) rfl h
      · replace h := h.2 (is_dec.f hc)
        refine w_exit ?_
        refine then_exit ?_
        refine loop_exit ?_
        refine block_exit ?_
        refine then_norm ?_
        refine w_seq ?_
        refine w_seq ?_
        refine w_run [0] ?_
        refine t_done [capacities0, scripts1, (.agg [(.int .i64 v16), (.int .i64 v17)]), (.bool (decide ((len3 : Int) > 4))), (.bool (decide ((len8 : Int) > 5))), (.int .i64 i18), (.bool (decide (i18 < (len22 : Int)))), d20, (.int .i64 0), .undef, .undef, .undef, .undef, .undef] H21 (by kernel_rfl) ?_
        refine then_norm ?_
        refine w_block ?_
        obtain ⟨J36, k37, h0, h⟩ := h
        refine w_loop (I := fun mI EI HI => ∃ (v39 : Int) (v40 : Int) (i41 : Int) (d42 : AV) (d43 : AV) (d44 : AV) (d45 : AV) (d46 : AV), EI = [capacities0, scripts1, (.agg [(.int .i64 v39), (.int .i64 v40)]), (.bool (decide ((len3 : Int) > 4))), (.bool (decide ((len8 : Int) > 5))), (.int .i64 i18), (.bool (decide (i18 < (len22 : Int)))), d20, (.int .i64 i41), d42, d43, d44, d45, d46] ∧ J36 mI v39 v40 i41 HI) ?_ k37 ⟨_, _, _, _, _, _, _, _, rfl, h0⟩
        clear h0
        rintro m38 EI H47 ⟨v39, v40, i41, d42, d43, d44, d45, d46, rfl, hJ⟩
        replace h := h m38 v39 v40 i41 H47 hJ
        clear hJ
        refine w_seq ?_
        refine w_seq ?_
        refine w_run [0, 0, 1, 0] ?_
        obtain ⟨len48, hl, h⟩ := h
        refine t_len true scripts1 len48 H47 (by kernel_rfl) hl ?_
        refine t_done [capacities0, scripts1, (.agg [(.int .i64 v39), (.int .i64 v40)]), (.bool (decide ((len3 : Int) > 4))), (.bool (decide ((len8 : Int) > 5))), (.int .i64 i18), (.bool (decide (i18 < (len22 : Int)))), d20, (.int .i64 i41), (.bool (decide (i41 < (len48 : Int)))), d43, d44, d45, d46] H47 (by kernel_rfl) ?_
        refine then_norm ?_
        refine w_cond (t := (decide (i41 < (len48 : Int)))) rfl (fun hc => ?_) (fun hc => ?_)
        · replace h := h.1 (is_dec.t hc)
          refine w_skip ?_
          refine then_norm ?_
          refine w_seq ?_
          refine w_block ?_
          refine w_seq ?_
          refine w_seq ?_
          refine w_run [0, 0, 1, 1, 1, 0] ?_
          obtain ⟨e49, hg50, h⟩ := h
          refine t_idxG true 1 scripts1 .i64 i41 H47 (by kernel_rfl) hg50 ?_
          refine t_loadG true none 1 scripts1 i41 0 e49 H47 (by kernel_rfl) hg50 ?_
          obtain ⟨len51, hl, h⟩ := h
          refine t_len true e49 len51 H47 (by kernel_rfl) hl ?_
          refine t_done [capacities0, scripts1, (.agg [(.int .i64 v39), (.int .i64 v40)]), (.bool (decide ((len3 : Int) > 4))), (.bool (decide ((len8 : Int) > 5))), (.int .i64 i18), (.bool (decide (i18 < (len22 : Int)))), d20, (.int .i64 i41), (.bool (decide (i41 < (len48 : Int)))), (.bool (decide ((len51 : Int) > 8))), d44, d45, d46] H47 (by kernel_rfl) ?_
          refine then_norm ?_
          refine w_cond (t := (decide ((len51 : Int) > 8))) rfl (fun hc => ?_) (fun hc => ?_)
          · replace h := h.1 (is_dec.t hc)
            refine w_seq ?_
            refine w_run [0, 1, 1] ?_
            refine t_call true nFFault [(.int .i64 2), (.int .i64 i41)] H47 (by kernel_rfl) h ?_
            clear h
            rintro _ H54 ⟨r52, r53, rfl, h⟩
            refine t_upd true 2 0 [(.int .i64 v39), (.int .i64 v40)] (.agg [(.int .i64 r52), (.int .i64 r53)]) [(.int .i64 r52), (.int .i64 r53)] [(.int .i64 r52), (.int .i64 r53)] H54 (by kernel_rfl) rfl (all_c rfl (all_c rfl all_n)) ⟨rfl, Nat.le_of_ble_eq_true (by kernel_rfl), rfl⟩ ?_
            refine t_done [capacities0, scripts1, (.agg [(.int .i64 r52), (.int .i64 r53)]), (.bool (decide ((len3 : Int) > 4))), (.bool (decide ((len8 : Int) > 5))), (.int .i64 i18), (.bool (decide (i18 < (len22 : Int)))), d20, (.int .i64 i41), (.bool (decide (i41 < (len48 : Int)))), (.bool (decide ((len51 : Int) > 8))), d44, d45, d46] H54 (by kernel_rfl) ?_
            refine then_norm ?_
            refine w_ret ?_
            refine then_ret ?_
            refine block_ret ?_
            refine then_ret ?_
            refine loop_ret ?_
            refine block_ret ?_
            refine then_ret ?_
            exact body_ret (vs := [(.agg [(.int .i64 r52), (.int .i64 r53)])]) _ (by kernel_rfl) rfl h
          · replace h := h.2 (is_dec.f hc)
            refine w_skip ?_
            refine then_norm ?_
            refine w_seq ?_
            refine w_run [0] ?_
            refine t_done [capacities0, scripts1, (.agg [(.int .i64 v39), (.int .i64 v40)]), (.bool (decide ((len3 : Int) > 4))), (.bool (decide ((len8 : Int) > 5))), (.int .i64 i18), (.bool (decide (i18 < (len22 : Int)))), d20, (.int .i64 i41), (.bool (decide (i41 < (len48 : Int)))), (.bool (decide ((len51 : Int) > 8))), (.int .i64 0), d45, d46] H47 (by kernel_rfl) ?_
            refine then_norm ?_
            refine w_block ?_
            obtain ⟨J56, k57, h0, h⟩ := h
            refine w_loop (I := fun mI EI HI => ∃ (v59 : Int) (v60 : Int) (k61 : Int) (d62 : AV) (d63 : AV), EI = [capacities0, scripts1, (.agg [(.int .i64 v59), (.int .i64 v60)]), (.bool (decide ((len3 : Int) > 4))), (.bool (decide ((len8 : Int) > 5))), (.int .i64 i18), (.bool (decide (i18 < (len22 : Int)))), d20, (.int .i64 i41), (.bool (decide (i41 < (len48 : Int)))), (.bool (decide ((len51 : Int) > 8))), (.int .i64 k61), d62, d63] ∧ J56 mI v59 v60 k61 HI) ?_ k57 ⟨_, _, _, _, _, rfl, h0⟩
            clear h0
            rintro m58 EI H64 ⟨v59, v60, k61, d62, d63, rfl, hJ⟩
            replace h := h m58 v59 v60 k61 H64 hJ
            clear hJ
            refine w_seq ?_
            refine w_seq ?_
            refine w_run [0, 0, 0, 1, 1, 1, 0] ?_
            obtain ⟨e65, hg66, h⟩ := h
            refine t_idxG true 1 scripts1 .i64 i41 H64 (by kernel_rfl) hg66 ?_
            refine t_loadG true none 1 scripts1 i41 0 e65 H64 (by kernel_rfl) hg66 ?_
            obtain ⟨len67, hl, h⟩ := h
            refine t_len true e65 len67 H64 (by kernel_rfl) hl ?_
            refine t_done [capacities0, scripts1, (.agg [(.int .i64 v59), (.int .i64 v60)]), (.bool (decide ((len3 : Int) > 4))), (.bool (decide ((len8 : Int) > 5))), (.int .i64 i18), (.bool (decide (i18 < (len22 : Int)))), d20, (.int .i64 i41), (.bool (decide (i41 < (len48 : Int)))), (.bool (decide ((len51 : Int) > 8))), (.int .i64 k61), (.bool (decide (k61 < (len67 : Int)))), d63] H64 (by kernel_rfl) ?_
            refine then_norm ?_
            refine w_cond (t := (decide (k61 < (len67 : Int)))) rfl (fun hc => ?_) (fun hc => ?_)
            · replace h := h.1 (is_dec.t hc)
              refine w_skip ?_
              refine then_norm ?_
              refine w_seq ?_
              refine w_block ?_
              refine w_seq ?_
              refine w_run [0, 0, 1, 1, 0, 1, 1, 0, 1, 1, 0] ?_
              obtain ⟨e68, hg69, h⟩ := h
              refine t_idxG true 1 scripts1 .i64 i41 H64 (by kernel_rfl) hg69 ?_
              refine t_loadG true none 1 scripts1 i41 0 e68 H64 (by kernel_rfl) hg69 ?_
              obtain ⟨e70, e71, e72, e73, e74, hg75, h⟩ := h
              refine t_idxG true 5 e68 .i64 k61 H64 (by kernel_rfl) hg75 ?_
              refine t_loadG true (some 5) 5 e68 k61 0 (.agg [(.int .i64 e70), (.int .i64 e71), (.int .i64 e72), (.int .i64 e73), e74]) H64 (by kernel_rfl) hg75 ?_
              obtain ⟨len76, hl, h⟩ := h
              refine t_len true capacities0 len76 H64 (by kernel_rfl) hl ?_
              refine t_call true nFOpCode [(.agg [(.int .i64 e70), (.int .i64 e71), (.int .i64 e72), (.int .i64 e73), e74]), (.int .i64 (len76 : Int))] H64 (by kernel_rfl) h ?_
              clear h
              rintro _ H78 ⟨r77, rfl, h⟩
              refine t_done [capacities0, scripts1, (.agg [(.int .i64 v59), (.int .i64 v60)]), (.bool (decide ((len3 : Int) > 4))), (.bool (decide ((len8 : Int) > 5))), (.int .i64 i18), (.bool (decide (i18 < (len22 : Int)))), d20, (.int .i64 i41), (.bool (decide (i41 < (len48 : Int)))), (.bool (decide ((len51 : Int) > 8))), (.int .i64 k61), (.bool (decide (k61 < (len67 : Int)))), (.bool ((r77) != 0))] H78 (by kernel_rfl) ?_
              refine then_norm ?_
              refine w_cond (t := ((r77) != 0)) rfl (fun hc => ?_) (fun hc => ?_)
              · replace h := h.1 (is_ne.t hc)
                refine w_seq ?_
                refine w_run [0, 0, 1, 1, 0, 1, 1, 0, 1, 1, 0, 1, 1] ?_
                obtain ⟨e80, hg81, h⟩ := h
                refine t_idxG true 1 scripts1 .i64 i41 H78 (by kernel_rfl) hg81 ?_
                refine t_loadG true none 1 scripts1 i41 0 e80 H78 (by kernel_rfl) hg81 ?_
                obtain ⟨e82, e83, e84, e85, e86, hg87, h⟩ := h
                refine t_idxG true 5 e80 .i64 k61 H78 (by kernel_rfl) hg87 ?_
                refine t_loadG true (some 5) 5 e80 k61 0 (.agg [(.int .i64 e82), (.int .i64 e83), (.int .i64 e84), (.int .i64 e85), e86]) H78 (by kernel_rfl) hg87 ?_
                obtain ⟨len88, hl, h⟩ := h
                refine t_len true capacities0 len88 H78 (by kernel_rfl) hl ?_
                refine t_call true nFOpCode [(.agg [(.int .i64 e82), (.int .i64 e83), (.int .i64 e84), (.int .i64 e85), e86]), (.int .i64 (len88 : Int))] H78 (by kernel_rfl) h ?_
                clear h
                rintro _ H90 ⟨r89, rfl, h⟩
                refine t_call true nFFault [(.int .i64 r89), (.int .i64 i41)] H90 (by kernel_rfl) h ?_
                clear h
                rintro _ H94 ⟨r92, r93, rfl, h⟩
                refine t_upd true 2 0 [(.int .i64 v59), (.int .i64 v60)] (.agg [(.int .i64 r92), (.int .i64 r93)]) [(.int .i64 r92), (.int .i64 r93)] [(.int .i64 r92), (.int .i64 r93)] H94 (by kernel_rfl) rfl (all_c rfl (all_c rfl all_n)) ⟨rfl, Nat.le_of_ble_eq_true (by kernel_rfl), rfl⟩ ?_
                refine t_done [capacities0, scripts1, (.agg [(.int .i64 r92), (.int .i64 r93)]), (.bool (decide ((len3 : Int) > 4))), (.bool (decide ((len8 : Int) > 5))), (.int .i64 i18), (.bool (decide (i18 < (len22 : Int)))), d20, (.int .i64 i41), (.bool (decide (i41 < (len48 : Int)))), (.bool (decide ((len51 : Int) > 8))), (.int .i64 k61), (.bool (decide (k61 < (len67 : Int)))), (.bool ((r77) != 0))] H94 (by kernel_rfl) ?_
                refine then_norm ?_
                refine w_ret ?_
                refine block_ret ?_
                refine then_ret ?_
                refine loop_ret ?_
                refine block_ret ?_
                refine block_ret ?_
                refine then_ret ?_
                refine loop_ret ?_
                refine block_ret ?_
                refine then_ret ?_
                exact body_ret (vs := [(.agg [(.int .i64 r92), (.int .i64 r93)])]) _ (by kernel_rfl) rfl h
              · replace h := h.2 (is_ne.f hc)
                refine w_skip ?_
                refine block_norm ?_
                refine then_norm ?_
                refine w_run [0, 0, 0] ?_
                refine t_done [capacities0, scripts1, (.agg [(.int .i64 v59), (.int .i64 v60)]), (.bool (decide ((len3 : Int) > 4))), (.bool (decide ((len8 : Int) > 5))), (.int .i64 i18), (.bool (decide (i18 < (len22 : Int)))), d20, (.int .i64 i41), (.bool (decide (i41 < (len48 : Int)))), (.bool (decide ((len51 : Int) > 8))), (.int .i64 (IntKind.wrap .i64 (k61 + 1))), (.bool (decide (k61 < (len67 : Int)))), (.bool ((r77) != 0))] H78 (by kernel_rfl) ?_
                obtain ⟨m', hm, h⟩ := h
                refine loop_norm ⟨m', hm, _, _, _, _, _, rfl, h⟩
            · replace h := h.2 (is_dec.f hc)
              refine w_exit ?_
              refine then_exit ?_
              refine loop_exit ?_
              refine block_exit ?_
              refine block_norm ?_
              refine then_norm ?_
              refine w_run [0, 0, 0] ?_
              refine t_done [capacities0, scripts1, (.agg [(.int .i64 v59), (.int .i64 v60)]), (.bool (decide ((len3 : Int) > 4))), (.bool (decide ((len8 : Int) > 5))), (.int .i64 i18), (.bool (decide (i18 < (len22 : Int)))), d20, (.int .i64 (IntKind.wrap .i64 (i41 + 1))), (.bool (decide (i41 < (len48 : Int)))), (.bool (decide ((len51 : Int) > 8))), (.int .i64 k61), (.bool (decide (k61 < (len67 : Int)))), d63] H64 (by kernel_rfl) ?_
              obtain ⟨m', hm, h⟩ := h
              refine loop_norm ⟨m', hm, _, _, _, _, _, _, _, _, rfl, h⟩
        · replace h := h.2 (is_dec.f hc)
          refine w_exit ?_
          refine then_exit ?_
          refine loop_exit ?_
          refine block_exit ?_
          refine then_norm ?_
          refine w_seq ?_
          refine w_run [1, 1] ?_
          refine t_call true nFFault [(.int .i64 0), (.int .i64 0)] H47 (by kernel_rfl) h ?_
          clear h
          rintro _ H100 ⟨r98, r99, rfl, h⟩
          refine t_upd true 2 0 [(.int .i64 v39), (.int .i64 v40)] (.agg [(.int .i64 r98), (.int .i64 r99)]) [(.int .i64 r98), (.int .i64 r99)] [(.int .i64 r98), (.int .i64 r99)] H100 (by kernel_rfl) rfl (all_c rfl (all_c rfl all_n)) ⟨rfl, Nat.le_of_ble_eq_true (by kernel_rfl), rfl⟩ ?_
          refine t_done [capacities0, scripts1, (.agg [(.int .i64 r98), (.int .i64 r99)]), (.bool (decide ((len3 : Int) > 4))), (.bool (decide ((len8 : Int) > 5))), (.int .i64 i18), (.bool (decide (i18 < (len22 : Int)))), d20, (.int .i64 i41), (.bool (decide (i41 < (len48 : Int)))), d43, d44, d45, d46] H100 (by kernel_rfl) ?_
          refine then_norm ?_
          refine w_ret ?_
          exact body_ret (vs := [(.agg [(.int .i64 r98), (.int .i64 r99)])]) _ (by kernel_rfl) rfl h

def rf_FOpCode : RFunc := ⟨2, 12, [.var 2],
 ((.seq (.ops [⟨.tomb 1 (.var 0), none, (some 3), true⟩, ⟨.move (.k (.int .i64 0)), none, (some 2), true⟩])
 ((.seq ((.seq (.ops [⟨.field 0 none (.var 3), none, none, true⟩, ⟨.field 0 none (.var 3), none, none, true⟩, ⟨.bin .lss .no (.loc 1) (.k (.int .i64 1)), none, none, true⟩, ⟨.move (.loc 2), none, none, true⟩, ⟨.field 0 none (.var 3), none, none, true⟩, ⟨.field 0 none (.var 3), none, none, true⟩, ⟨.bin .gtr .no (.loc 5) (.k (.int .i64 4)), none, none, true⟩, ⟨.pick (.loc 3) (.k (.bool true)) (.loc 6), none, (some 4), true⟩])
 (.cond (.var 4) ((.seq (.ops [⟨.move (.k (.int .i64 4)), none, (some 2), true⟩])
 (.ret))) (.skip))))
 ((.seq (.ops [⟨.field 0 none (.var 3), none, none, true⟩, ⟨.field 0 none (.var 3), none, none, true⟩, ⟨.bin .lss .no (.loc 1) (.k (.int .i64 3)), none, none, true⟩, ⟨.move (.loc 2), none, (some 5), true⟩])
 ((.seq ((.seq (.ops [⟨.move (.var 5), none, none, true⟩, ⟨.un .not (.loc 0), none, none, true⟩, ⟨.move (.loc 1), none, none, true⟩, ⟨.field 0 none (.var 3), none, none, true⟩, ⟨.field 1 none (.var 3), none, none, true⟩, ⟨.bin .neq .no (.loc 4) (.k (.int .i64 0)), none, none, true⟩, ⟨.pick (.loc 2) (.loc 5) (.k (.bool false)), none, none, true⟩, ⟨.move (.loc 6), none, none, true⟩, ⟨.field 0 none (.var 3), none, none, true⟩, ⟨.field 0 none (.var 3), none, none, true⟩, ⟨.bin .neq .no (.loc 9) (.k (.int .i64 1)), none, none, true⟩, ⟨.move (.loc 10), none, none, true⟩, ⟨.field 0 none (.var 3), none, none, true⟩, ⟨.field 2 none (.var 3), none, none, true⟩, ⟨.bin .neq .no (.loc 13) (.k (.int .i64 0)), none, none, true⟩, ⟨.pick (.loc 11) (.loc 14) (.k (.bool false)), none, none, true⟩, ⟨.pick (.loc 7) (.k (.bool true)) (.loc 15), none, none, true⟩, ⟨.move (.loc 16), none, none, true⟩, ⟨.move (.var 5), none, none, true⟩, ⟨.move (.loc 18), none, none, true⟩, ⟨.field 0 none (.var 3), none, none, true⟩, ⟨.field 3 none (.var 3), none, none, true⟩, ⟨.bin .neq .no (.loc 21) (.k (.int .i64 0)), none, none, true⟩, ⟨.pick (.loc 19) (.loc 22) (.k (.bool false)), none, none, true⟩, ⟨.pick (.loc 17) (.k (.bool true)) (.loc 23), none, none, true⟩, ⟨.move (.loc 24), none, none, true⟩, ⟨.field 0 none (.var 3), none, none, true⟩, ⟨.field 0 none (.var 3), none, none, true⟩, ⟨.bin .neq .no (.loc 27) (.k (.int .i64 3)), none, none, true⟩, ⟨.move (.loc 28), none, none, true⟩, ⟨.field 0 none (.var 3), none, none, true⟩, ⟨.field 4 none (.var 3), none, none, true⟩, ⟨.len (.loc 31), none, none, true⟩, ⟨.bin .gtr .no (.loc 32) (.k (.int .i64 0)), none, none, true⟩, ⟨.pick (.loc 29) (.loc 33) (.k (.bool false)), none, none, true⟩, ⟨.pick (.loc 25) (.k (.bool true)) (.loc 34), none, (some 6), true⟩])
 (.cond (.var 6) ((.seq (.ops [⟨.move (.k (.int .i64 5)), none, (some 2), true⟩])
 (.ret))) (.skip))))
 ((.seq ((.seq (.ops [⟨.move (.var 5), none, none, true⟩, ⟨.move (.loc 0), none, none, true⟩, ⟨.field 0 none (.var 3), none, none, true⟩, ⟨.field 1 none (.var 3), none, none, true⟩, ⟨.bin .lss .no (.loc 3) (.k (.int .i64 0)), none, none, true⟩, ⟨.move (.loc 4), none, none, true⟩, ⟨.field 0 none (.var 3), none, none, true⟩, ⟨.field 1 none (.var 3), none, none, true⟩, ⟨.move (.var 1), none, none, true⟩, ⟨.bin .geq .no (.loc 7) (.loc 8), none, none, true⟩, ⟨.pick (.loc 5) (.k (.bool true)) (.loc 9), none, none, true⟩, ⟨.pick (.loc 1) (.loc 10) (.k (.bool false)), none, none, true⟩, ⟨.move (.loc 11), none, none, true⟩, ⟨.field 0 none (.var 3), none, none, true⟩, ⟨.field 2 none (.var 3), none, none, true⟩, ⟨.bin .lss .no (.loc 14) (.k (.int .i64 0)), none, none, true⟩, ⟨.pick (.loc 12) (.k (.bool true)) (.loc 15), none, none, true⟩, ⟨.move (.loc 16), none, none, true⟩, ⟨.field 0 none (.var 3), none, none, true⟩, ⟨.field 2 none (.var 3), none, none, true⟩, ⟨.bin .gtr .no (.loc 19) (.k (.int .i64 1000000000)), none, none, true⟩, ⟨.pick (.loc 17) (.k (.bool true)) (.loc 20), none, none, true⟩, ⟨.move (.loc 21), none, none, true⟩, ⟨.field 0 none (.var 3), none, none, true⟩, ⟨.field 3 none (.var 3), none, none, true⟩, ⟨.bin .gtr .no (.loc 24) (.k (.int .i64 60)), none, none, true⟩, ⟨.pick (.loc 22) (.k (.bool true)) (.loc 25), none, none, true⟩, ⟨.move (.loc 26), none, none, true⟩, ⟨.field 0 none (.var 3), none, none, true⟩, ⟨.field 3 none (.var 3), none, none, true⟩, ⟨.bin .lss .no (.loc 29) (.k (.int .i64 (-1))), none, none, true⟩, ⟨.pick (.loc 27) (.k (.bool true)) (.loc 30), none, none, true⟩, ⟨.move (.loc 31), none, none, true⟩, ⟨.field 0 none (.var 3), none, none, true⟩, ⟨.field 3 none (.var 3), none, none, true⟩, ⟨.bin .eql .no (.loc 34) (.k (.int .i64 (-1))), none, none, true⟩, ⟨.move (.loc 35), none, none, true⟩, ⟨.field 0 none (.var 3), none, none, true⟩, ⟨.field 0 none (.var 3), none, none, true⟩, ⟨.bin .neq .no (.loc 38) (.k (.int .i64 3)), none, none, true⟩, ⟨.pick (.loc 36) (.loc 39) (.k (.bool false)), none, none, true⟩, ⟨.pick (.loc 32) (.k (.bool true)) (.loc 40), none, (some 7), true⟩])
 (.cond (.var 7) ((.seq (.ops [⟨.move (.k (.int .i64 3)), none, (some 2), true⟩])
 (.ret))) (.skip))))
 ((.seq ((.seq (.ops [⟨.move (.k (.int .i64 0)), none, (some 8), true⟩])
 (.block 0 (.loop ((.seq ((.seq (.ops [⟨.move (.var 8), none, none, true⟩, ⟨.field 0 none (.var 3), none, none, true⟩, ⟨.field 4 none (.var 3), none, none, true⟩, ⟨.len (.loc 2), none, none, true⟩, ⟨.bin .lss .no (.loc 0) (.loc 3), none, (some 9), true⟩])
 (.cond (.var 9) (.skip) (.exit 0))))
 ((.seq (.block 1 ((.seq (.ops [⟨.field 0 none (.var 3), none, none, true⟩, ⟨.field 4 none (.var 3), none, none, true⟩, ⟨.move (.var 8), none, none, true⟩, ⟨.indexAddr 1 (.loc 1) (.loc 2), none, none, true⟩, ⟨.load none (.loc 3), none, none, true⟩, ⟨.bin .lss .no (.loc 4) (.k (.int .i64 0)), none, none, true⟩, ⟨.move (.loc 5), none, none, true⟩, ⟨.field 0 none (.var 3), none, none, true⟩, ⟨.field 4 none (.var 3), none, none, true⟩, ⟨.move (.var 8), none, none, true⟩, ⟨.indexAddr 1 (.loc 8) (.loc 9), (some (6, false)), none, true⟩, ⟨.load none (.loc 10), (some (6, false)), none, true⟩, ⟨.move (.var 1), none, none, true⟩, ⟨.bin .geq .no (.loc 11) (.loc 12), (some (6, false)), none, true⟩, ⟨.pick (.loc 6) (.k (.bool true)) (.loc 13), none, (some 10), true⟩])
 (.cond (.var 10) ((.seq (.ops [⟨.move (.k (.int .i64 3)), none, (some 2), true⟩])
 (.ret))) (.skip)))))
 (.ops [⟨.move (.var 8), none, none, true⟩, ⟨.bin .add .no (.loc 0) (.k (.int .i64 1)), none, none, true⟩, ⟨.move (.loc 1), none, (some 8), true⟩])))))))))
 ((.seq ((.seq (.ops [⟨.field 0 none (.var 3), none, none, true⟩, ⟨.field 4 none (.var 3), none, none, true⟩, ⟨.len (.loc 1), none, none, true⟩, ⟨.bin .gtr .no (.loc 2) (.k (.int .i64 4)), none, (some 11), true⟩])
 (.cond (.var 11) ((.seq (.ops [⟨.move (.k (.int .i64 2)), none, (some 2), true⟩])
 (.ret))) (.skip))))
 ((.seq (.ops [⟨.move (.k (.int .i64 0)), none, (some 2), true⟩])
 (.ret))))))))))))))))), none⟩
theorem v_FOpCode {F : Nat → Option RFunc} {me : Nat} (hF : F me = some (rf_FOpCode )) {fl : Nat} {H : Heap} {Q : AV → Heap → Prop} (o0 : Int) (o1 : Int) (o2 : Int) (o3 : Int) (o4 : AV) (channels5 : Int)
  (h : ∀ (H6 : Heap), Dead1 H 1 H6 → ((((o0 < 1) ∨ (o0 > 4))) → Q (.int .i64 4) H6) ∧ (¬(((o0 < 1) ∨ (o0 > 4))) → ∃ len7 : Nat, lenA o4 = some len7 ∧ ((((((((((¬(o0 < 3)) ∧ (o1 ≠ 0))) ∨ (((o0 ≠ 1) ∧ (o2 ≠ 0))))) ∨ (((o0 < 3) ∧ (o3 ≠ 0))))) ∨ (((o0 ≠ 3) ∧ ((len7 : Int) > 0))))) → Q (.int .i64 5) H6) ∧ (¬(((((((((¬(o0 < 3)) ∧ (o1 ≠ 0))) ∨ (((o0 ≠ 1) ∧ (o2 ≠ 0))))) ∨ (((o0 < 3) ∧ (o3 ≠ 0))))) ∨ (((o0 ≠ 3) ∧ ((len7 : Int) > 0))))) → ((((((((((((((o0 < 3) ∧ (((o1 < 0) ∨ (o1 ≥ channels5))))) ∨ (o2 < 0))) ∨ (o2 > 1000000000))) ∨ (o3 > 60))) ∨ (o3 < (-1)))) ∨ (((o3 = (-1)) ∧ (o0 ≠ 3))))) → Q (.int .i64 3) H6) ∧ (¬(((((((((((((o0 < 3) ∧ (((o1 < 0) ∨ (o1 ≥ channels5))))) ∨ (o2 < 0))) ∨ (o2 > 1000000000))) ∨ (o3 > 60))) ∨ (o3 < (-1)))) ∨ (((o3 = (-1)) ∧ (o0 ≠ 3))))) → ∃ (J8 : Nat → Int → Prop) (k9 : Nat), J8 k9 0 ∧ (∀ (m10 : Nat) (i12 : Int), J8 m10 i12 → ∃ len15 : Nat, lenA o4 = some len15 ∧ ((i12 < (len15 : Int)) → ∃ (e16 : Int), getA H6 1 none o4 i12 0 = some (.int .i64 e16) ∧ ((e16 < 0) → Q (.int .i64 3) H6) ∧ (¬(e16 < 0) → ∃ (e18 : Int), getA H6 1 none o4 i12 0 = some (.int .i64 e18) ∧ ((e18 ≥ channels5) → Q (.int .i64 3) H6) ∧ (¬(e18 ≥ channels5) → ∃ m20 : Nat, m20 < m10 ∧ J8 m20 (IntKind.wrap .i64 (i12 + 1))))) ∧ (¬(i12 < (len15 : Int)) → ∃ len21 : Nat, lenA o4 = some len21 ∧ (((len21 : Int) > 4) → Q (.int .i64 2) H6) ∧ (¬((len21 : Int) > 4) → Q (.int .i64 0) H6))))))) : Ret F fl me [(.agg [(.int .i64 o0), (.int .i64 o1), (.int .i64 o2), (.int .i64 o3), o4]), (.int .i64 channels5)] H Q := by
  refine ret_intro hF rfl ?_
  refine w_seq ?_
  refine w_run [1, 0] ?_
  obtain ⟨H6, hb⟩ : ∃ H', Dead1 H 1 H' := ⟨_, ⟨rfl⟩⟩
  replace h := h H6 hb
  refine t_tomb true 1 (.agg [(.int .i64 o0), (.int .i64 o1), (.int .i64 o2), (.int .i64 o3), o4]) [(.int .i64 o0), (.int .i64 o1), (.int .i64 o2), (.int .i64 o3), o4] H6 H (by kernel_rfl) rfl hb ?_
  refine t_done [(.agg [(.int .i64 o0), (.int .i64 o1), (.int .i64 o2), (.int .i64 o3), o4]), (.int .i64 channels5), (.int .i64 0), (.agg [(.int .i64 o0), (.int .i64 o1), (.int .i64 o2), (.int .i64 o3), o4]), .undef, .undef, .undef, .undef, .undef, .undef, .undef, .undef] H6 (by kernel_rfl) ?_
  refine then_norm ?_
  refine w_seq ?_
  refine w_seq ?_
  refine w_run [0, 0, 0, 0, 0, 0, 0, 0] ?_
  refine t_done [(.agg [(.int .i64 o0), (.int .i64 o1), (.int .i64 o2), (.int .i64 o3), o4]), (.int .i64 channels5), (.int .i64 0), (.agg [(.int .i64 o0), (.int .i64 o1), (.int .i64 o2), (.int .i64 o3), o4]), (.bool ((decide (o0 < 1)) || (decide (o0 > 4)))), .undef, .undef, .undef, .undef, .undef, .undef, .undef] H6 (by kernel_rfl) ?_
  refine then_norm ?_
  refine w_cond (t := ((decide (o0 < 1)) || (decide (o0 > 4)))) rfl (fun hc => ?_) (fun hc => ?_)
  · replace h := h.1 ((is_or is_dec is_dec).t hc)
    refine w_seq ?_
    refine w_run [0] ?_
    refine t_done [(.agg [(.int .i64 o0), (.int .i64 o1), (.int .i64 o2), (.int .i64 o3), o4]), (.int .i64 channels5), (.int .i64 4), (.agg [(.int .i64 o0), (.int .i64 o1), (.int .i64 o2), (.int .i64 o3), o4]), (.bool ((decide (o0 < 1)) || (decide (o0 > 4)))), .undef, .undef, .undef, .undef, .undef, .undef, .undef] H6 (by kernel_rfl) ?_
    refine then_norm ?_
    refine w_ret ?_
    refine then_ret ?_
    exact body_ret (vs := [(.int .i64 4)]) _ (by kernel_rfl) rfl h
  · replace h := h.2 ((is_or is_dec is_dec).f hc)
    refine w_skip ?_
    refine then_norm ?_
    refine w_seq ?_
    refine w_run [0, 0, 0, 0] ?_
    refine t_done [(.agg [(.int .i64 o0), (.int .i64 o1), (.int .i64 o2), (.int .i64 o3), o4]), (.int .i64 channels5), (.int .i64 0), (.agg [(.int .i64 o0), (.int .i64 o1), (.int .i64 o2), (.int .i64 o3), o4]), (.bool ((decide (o0 < 1)) || (decide (o0 > 4)))), (.bool (decide (o0 < 3))), .undef, .undef, .undef, .undef, .undef, .undef] H6 (by kernel_rfl) ?_
    refine then_norm ?_
    refine w_seq ?_
    refine w_seq ?_
    refine w_run [0, 0, 0, 0, 0, 0, 0, 0, 0, 0, 0, 0, 0, 0, 0, 0, 0, 0, 0, 0, 0, 0, 0, 0, 0, 0, 0, 0, 0, 0, 0, 0, 1, 0, 0, 0] ?_
    obtain ⟨len7, hl, h⟩ := h
    refine t_len true o4 len7 H6 (by kernel_rfl) hl ?_
    refine t_done [(.agg [(.int .i64 o0), (.int .i64 o1), (.int .i64 o2), (.int .i64 o3), o4]), (.int .i64 channels5), (.int .i64 0), (.agg [(.int .i64 o0), (.int .i64 o1), (.int .i64 o2), (.int .i64 o3), o4]), (.bool ((decide (o0 < 1)) || (decide (o0 > 4)))), (.bool (decide (o0 < 3))), (.bool (((((!(decide (o0 < 3))) && ((o1) != 0)) || (((o0) != 1) && ((o2) != 0))) || ((decide (o0 < 3)) && ((o3) != 0))) || (((o0) != 3) && (decide ((len7 : Int) > 0))))), .undef, .undef, .undef, .undef, .undef] H6 (by kernel_rfl) ?_
    refine then_norm ?_
    refine w_cond (t := (((((!(decide (o0 < 3))) && ((o1) != 0)) || (((o0) != 1) && ((o2) != 0))) || ((decide (o0 < 3)) && ((o3) != 0))) || (((o0) != 3) && (decide ((len7 : Int) > 0))))) rfl (fun hc => ?_) (fun hc => ?_)
    · replace h := h.1 ((is_or (is_or (is_or (is_and (is_not is_dec) is_ne) (is_and is_ne is_ne)) (is_and is_dec is_ne)) (is_and is_ne is_dec)).t hc)
      refine w_seq ?_
      refine w_run [0] ?_
      refine t_done [(.agg [(.int .i64 o0), (.int .i64 o1), (.int .i64 o2), (.int .i64 o3), o4]), (.int .i64 channels5), (.int .i64 5), (.agg [(.int .i64 o0), (.int .i64 o1), (.int .i64 o2), (.int .i64 o3), o4]), (.bool ((decide (o0 < 1)) || (decide (o0 > 4)))), (.bool (decide (o0 < 3))), (.bool (((((!(decide (o0 < 3))) && ((o1) != 0)) || (((o0) != 1) && ((o2) != 0))) || ((decide (o0 < 3)) && ((o3) != 0))) || (((o0) != 3) && (decide ((len7 : Int) > 0))))), .undef, .undef, .undef, .undef, .undef] H6 (by kernel_rfl) ?_
      refine then_norm ?_
      refine w_ret ?_
      refine then_ret ?_
      exact body_ret (vs := [(.int .i64 5)]) _ (by kernel_rfl) rfl h
    · replace h := h.2 ((is_or (is_or (is_or (is_and (is_not is_dec) is_ne) (is_and is_ne is_ne)) (is_and is_dec is_ne)) (is_and is_ne is_dec)).f hc)
      refine w_skip ?_
      refine then_norm ?_
      refine w_seq ?_
      refine w_seq ?_
      refine w_run [0, 0, 0, 0, 0, 0, 0, 0, 0, 0, 0, 0, 0, 0, 0, 0, 0, 0, 0, 0, 0, 0, 0, 0, 0, 0, 0, 0, 0, 0, 0, 0, 0, 0, 0, 0, 0, 0, 0, 0, 0, 0] ?_
      refine t_done [(.agg [(.int .i64 o0), (.int .i64 o1), (.int .i64 o2), (.int .i64 o3), o4]), (.int .i64 channels5), (.int .i64 0), (.agg [(.int .i64 o0), (.int .i64 o1), (.int .i64 o2), (.int .i64 o3), o4]), (.bool ((decide (o0 < 1)) || (decide (o0 > 4)))), (.bool (decide (o0 < 3))), (.bool (((((!(decide (o0 < 3))) && ((o1) != 0)) || (((o0) != 1) && ((o2) != 0))) || ((decide (o0 < 3)) && ((o3) != 0))) || (((o0) != 3) && (decide ((len7 : Int) > 0))))), (.bool (((((((decide (o0 < 3)) && ((decide (o1 < 0)) || (decide (o1 ≥ channels5)))) || (decide (o2 < 0))) || (decide (o2 > 1000000000))) || (decide (o3 > 60))) || (decide (o3 < (-1)))) || (((o3) == (-1)) && ((o0) != 3)))), .undef, .undef, .undef, .undef] H6 (by kernel_rfl) ?_
      refine then_norm ?_
      refine w_cond (t := (((((((decide (o0 < 3)) && ((decide (o1 < 0)) || (decide (o1 ≥ channels5)))) || (decide (o2 < 0))) || (decide (o2 > 1000000000))) || (decide (o3 > 60))) || (decide (o3 < (-1)))) || (((o3) == (-1)) && ((o0) != 3)))) rfl (fun hc => ?_) (fun hc => ?_)
      · replace h := h.1 ((is_or (is_or (is_or (is_or (is_or (is_and is_dec (is_or is_dec is_dec)) is_dec) is_dec) is_dec) is_dec) (is_and is_eq is_ne)).t hc)
        refine w_seq ?_
        refine w_run [0] ?_
        refine t_done [(.agg [(.int .i64 o0), (.int .i64 o1), (.int .i64 o2), (.int .i64 o3), o4]), (.int .i64 channels5), (.int .i64 3), (.agg [(.int .i64 o0), (.int .i64 o1), (.int .i64 o2), (.int .i64 o3), o4]), (.bool ((decide (o0 < 1)) || (decide (o0 > 4)))), (.bool (decide (o0 < 3))), (.bool (((((!(decide (o0 < 3))) && ((o1) != 0)) || (((o0) != 1) && ((o2) != 0))) || ((decide (o0 < 3)) && ((o3) != 0))) || (((o0) != 3) && (decide ((len7 : Int) > 0))))), (.bool (((((((decide (o0 < 3)) && ((decide (o1 < 0)) || (decide (o1 ≥ channels5)))) || (decide (o2 < 0))) || (decide (o2 > 1000000000))) || (decide (o3 > 60))) || (decide (o3 < (-1)))) || (((o3) == (-1)) && ((o0) != 3)))), .undef, .undef, .undef, .undef] H6 (by kernel_rfl) ?_
        refine then_norm ?_
        refine w_ret ?_
        refine then_ret ?_
        exact body_ret (vs := [(.int .i64 3)]) _ (by kernel_rfl) rfl h
      · replace h := h.2 ((is_or (is_or (is_or (is_or (is_or (is_and is_dec (is_or is_dec is_dec)) is_dec) is_dec) is_dec) is_dec) (is_and is_eq is_ne)).f hc)
        refine w_skip ?_
        refine then_norm ?_
        refine w_seq ?_
        refine w_seq ?_
        refine w_run [0] ?_
        refine t_done [(.agg [(.int .i64 o0), (.int .i64 o1), (.int .i64 o2), (.int .i64 o3), o4]), (.int .i64 channels5), (.int .i64 0), (.agg [(.int .i64 o0), (.int .i64 o1), (.int .i64 o2), (.int .i64 o3), o4]), (.bool ((decide (o0 < 1)) || (decide (o0 > 4)))), (.bool (decide (o0 < 3))), (.bool (((((!(decide (o0 < 3))) && ((o1) != 0)) || (((o0) != 1) && ((o2) != 0))) || ((decide (o0 < 3)) && ((o3) != 0))) || (((o0) != 3) && (decide ((len7 : Int) > 0))))), (.bool (((((((decide (o0 < 3)) && ((decide (o1 < 0)) || (decide (o1 ≥ channels5)))) || (decide (o2 < 0))) || (decide (o2 > 1000000000))) || (decide (o3 > 60))) || (decide (o3 < (-1)))) || (((o3) == (-1)) && ((o0) != 3)))), (.int .i64 0), .undef, .undef, .undef] H6 (by kernel_rfl) ?_
        refine then_norm ?_
        refine w_block ?_
        obtain ⟨J8, k9, h0, h⟩ := h
        refine w_loop (I := fun mI EI HI => ∃ (d11 : AV) (i12 : Int) (d13 : AV) (d14 : AV), EI = [(.agg [(.int .i64 o0), (.int .i64 o1), (.int .i64 o2), (.int .i64 o3), o4]), (.int .i64 channels5), d11, (.agg [(.int .i64 o0), (.int .i64 o1), (.int .i64 o2), (.int .i64 o3), o4]), (.bool ((decide (o0 < 1)) || (decide (o0 > 4)))), (.bool (decide (o0 < 3))), (.bool (((((!(decide (o0 < 3))) && ((o1) != 0)) || (((o0) != 1) && ((o2) != 0))) || ((decide (o0 < 3)) && ((o3) != 0))) || (((o0) != 3) && (decide ((len7 : Int) > 0))))), (.bool (((((((decide (o0 < 3)) && ((decide (o1 < 0)) || (decide (o1 ≥ channels5)))) || (decide (o2 < 0))) || (decide (o2 > 1000000000))) || (decide (o3 > 60))) || (decide (o3 < (-1)))) || (((o3) == (-1)) && ((o0) != 3)))), (.int .i64 i12), d13, d14, .undef] ∧ H6 = HI ∧ J8 mI i12) ?_ k9 ⟨_, _, _, _, rfl, rfl, h0⟩
        clear h0
        rintro m10 EI HI ⟨d11, i12, d13, d14, rfl, rfl, hJ⟩
        replace h := h m10 i12  hJ
        clear hJ
        refine w_seq ?_
        refine w_seq ?_
        refine w_run [0, 0, 0, 1, 0] ?_
        obtain ⟨len15, hl, h⟩ := h
        refine t_len true o4 len15 H6 (by kernel_rfl) hl ?_
        refine t_done [(.agg [(.int .i64 o0), (.int .i64 o1), (.int .i64 o2), (.int .i64 o3), o4]), (.int .i64 channels5), d11, (.agg [(.int .i64 o0), (.int .i64 o1), (.int .i64 o2), (.int .i64 o3), o4]), (.bool ((decide (o0 < 1)) || (decide (o0 > 4)))), (.bool (decide (o0 < 3))), (.bool (((((!(decide (o0 < 3))) && ((o1) != 0)) || (((o0) != 1) && ((o2) != 0))) || ((decide (o0 < 3)) && ((o3) != 0))) || (((o0) != 3) && (decide ((len7 : Int) > 0))))), (.bool (((((((decide (o0 < 3)) && ((decide (o1 < 0)) || (decide (o1 ≥ channels5)))) || (decide (o2 < 0))) || (decide (o2 > 1000000000))) || (decide (o3 > 60))) || (decide (o3 < (-1)))) || (((o3) == (-1)) && ((o0) != 3)))), (.int .i64 i12), (.bool (decide (i12 < (len15 : Int)))), d14, .undef] H6 (by kernel_rfl) ?_
        refine then_norm ?_
        refine w_cond (t := (decide (i12 < (len15 : Int)))) rfl (fun hc => ?_) (fun hc => ?_)
        · replace h := h.1 (is_dec.t hc)
          refine w_skip ?_
          refine then_norm ?_
          refine w_seq ?_
          refine w_block ?_
          refine w_seq ?_
          refine w_run [0, 0, 0, 1, 1, 0, 0, 0, 0, 0, 3, 3, 0, 2, 0] ?_
          obtain ⟨e16, hg17, h⟩ := h
          refine t_idxG true 1 o4 .i64 i12 H6 (by kernel_rfl) hg17 ?_
          refine t_loadG true none 1 o4 i12 0 (.int .i64 e16) H6 (by kernel_rfl) hg17 ?_
          refine t_gd (decide (e16 < 0)) false (by kernel_rfl) (fun hc => ?_) (fun hc => ?_)
          · replace h := h.2 (is_dec.f hc)
            obtain ⟨e18, hg19, h⟩ := h
            refine t_idxG true 1 o4 .i64 i12 H6 (by kernel_rfl) hg19 ?_
            refine t_gd false false (by kernel_rfl) (fun _ => ?_) (fun hn => by cases hn)
            refine t_loadG true none 1 o4 i12 0 (.int .i64 e18) H6 (by kernel_rfl) hg19 ?_
            refine t_gd false false (by kernel_rfl) (fun _ => ?_) (fun hn => by cases hn)
            refine t_done [(.agg [(.int .i64 o0), (.int .i64 o1), (.int .i64 o2), (.int .i64 o3), o4]), (.int .i64 channels5), d11, (.agg [(.int .i64 o0), (.int .i64 o1), (.int .i64 o2), (.int .i64 o3), o4]), (.bool ((decide (o0 < 1)) || (decide (o0 > 4)))), (.bool (decide (o0 < 3))), (.bool (((((!(decide (o0 < 3))) && ((o1) != 0)) || (((o0) != 1) && ((o2) != 0))) || ((decide (o0 < 3)) && ((o3) != 0))) || (((o0) != 3) && (decide ((len7 : Int) > 0))))), (.bool (((((((decide (o0 < 3)) && ((decide (o1 < 0)) || (decide (o1 ≥ channels5)))) || (decide (o2 < 0))) || (decide (o2 > 1000000000))) || (decide (o3 > 60))) || (decide (o3 < (-1)))) || (((o3) == (-1)) && ((o0) != 3)))), (.int .i64 i12), (.bool (decide (i12 < (len15 : Int)))), (.bool (decide (e18 ≥ channels5))), .undef] H6 (by kernel_rfl) ?_
            refine then_norm ?_
            refine w_cond (t := (decide (e18 ≥ channels5))) rfl (fun hc => ?_) (fun hc => ?_)
            · replace h := h.1 (is_dec.t hc)
              refine w_seq ?_
              refine w_run [0] ?_
              refine t_done [(.agg [(.int .i64 o0), (.int .i64 o1), (.int .i64 o2), (.int .i64 o3), o4]), (.int .i64 channels5), (.int .i64 3), (.agg [(.int .i64 o0), (.int .i64 o1), (.int .i64 o2), (.int .i64 o3), o4]), (.bool ((decide (o0 < 1)) || (decide (o0 > 4)))), (.bool (decide (o0 < 3))), (.bool (((((!(decide (o0 < 3))) && ((o1) != 0)) || (((o0) != 1) && ((o2) != 0))) || ((decide (o0 < 3)) && ((o3) != 0))) || (((o0) != 3) && (decide ((len7 : Int) > 0))))), (.bool (((((((decide (o0 < 3)) && ((decide (o1 < 0)) || (decide (o1 ≥ channels5)))) || (decide (o2 < 0))) || (decide (o2 > 1000000000))) || (decide (o3 > 60))) || (decide (o3 < (-1)))) || (((o3) == (-1)) && ((o0) != 3)))), (.int .i64 i12), (.bool (decide (i12 < (len15 : Int)))), (.bool (decide (e18 ≥ channels5))), .undef] H6 (by kernel_rfl) ?_
              refine then_norm ?_
              refine w_ret ?_
              refine block_ret ?_
              refine then_ret ?_
              refine loop_ret ?_
              refine block_ret ?_
              refine then_ret ?_
              exact body_ret (vs := [(.int .i64 3)]) _ (by kernel_rfl) rfl h
            · replace h := h.2 (is_dec.f hc)
              refine w_skip ?_
              refine block_norm ?_
              refine then_norm ?_
              refine w_run [0, 0, 0] ?_
              refine t_done [(.agg [(.int .i64 o0), (.int .i64 o1), (.int .i64 o2), (.int .i64 o3), o4]), (.int .i64 channels5), d11, (.agg [(.int .i64 o0), (.int .i64 o1), (.int .i64 o2), (.int .i64 o3), o4]), (.bool ((decide (o0 < 1)) || (decide (o0 > 4)))), (.bool (decide (o0 < 3))), (.bool (((((!(decide (o0 < 3))) && ((o1) != 0)) || (((o0) != 1) && ((o2) != 0))) || ((decide (o0 < 3)) && ((o3) != 0))) || (((o0) != 3) && (decide ((len7 : Int) > 0))))), (.bool (((((((decide (o0 < 3)) && ((decide (o1 < 0)) || (decide (o1 ≥ channels5)))) || (decide (o2 < 0))) || (decide (o2 > 1000000000))) || (decide (o3 > 60))) || (decide (o3 < (-1)))) || (((o3) == (-1)) && ((o0) != 3)))), (.int .i64 (IntKind.wrap .i64 (i12 + 1))), (.bool (decide (i12 < (len15 : Int)))), (.bool (decide (e18 ≥ channels5))), .undef] H6 (by kernel_rfl) ?_
              obtain ⟨m', hm, h⟩ := h
              refine loop_norm ⟨m', hm, _, _, _, _, rfl, rfl, h⟩
          · replace h := h.1 (is_dec.t hc)
            refine t_gd true false (by kernel_rfl) (fun hn => by cases hn) (fun _ => ?_)
            refine t_gd true false (by kernel_rfl) (fun hn => by cases hn) (fun _ => ?_)
            refine t_done [(.agg [(.int .i64 o0), (.int .i64 o1), (.int .i64 o2), (.int .i64 o3), o4]), (.int .i64 channels5), d11, (.agg [(.int .i64 o0), (.int .i64 o1), (.int .i64 o2), (.int .i64 o3), o4]), (.bool ((decide (o0 < 1)) || (decide (o0 > 4)))), (.bool (decide (o0 < 3))), (.bool (((((!(decide (o0 < 3))) && ((o1) != 0)) || (((o0) != 1) && ((o2) != 0))) || ((decide (o0 < 3)) && ((o3) != 0))) || (((o0) != 3) && (decide ((len7 : Int) > 0))))), (.bool (((((((decide (o0 < 3)) && ((decide (o1 < 0)) || (decide (o1 ≥ channels5)))) || (decide (o2 < 0))) || (decide (o2 > 1000000000))) || (decide (o3 > 60))) || (decide (o3 < (-1)))) || (((o3) == (-1)) && ((o0) != 3)))), (.int .i64 i12), (.bool (decide (i12 < (len15 : Int)))), (.bool true), .undef] H6 (by kernel_rfl) ?_
            refine then_norm ?_
            refine w_cond (t := true) rfl (fun _ => ?_) (fun hc => by cases hc)
            refine w_seq ?_
            refine w_run [0] ?_
            refine t_done [(.agg [(.int .i64 o0), (.int .i64 o1), (.int .i64 o2), (.int .i64 o3), o4]), (.int .i64 channels5), (.int .i64 3), (.agg [(.int .i64 o0), (.int .i64 o1), (.int .i64 o2), (.int .i64 o3), o4]), (.bool ((decide (o0 < 1)) || (decide (o0 > 4)))), (.bool (decide (o0 < 3))), (.bool (((((!(decide (o0 < 3))) && ((o1) != 0)) || (((o0) != 1) && ((o2) != 0))) || ((decide (o0 < 3)) && ((o3) != 0))) || (((o0) != 3) && (decide ((len7 : Int) > 0))))), (.bool (((((((decide (o0 < 3)) && ((decide (o1 < 0)) || (decide (o1 ≥ channels5)))) || (decide (o2 < 0))) || (decide (o2 > 1000000000))) || (decide (o3 > 60))) || (decide (o3 < (-1)))) || (((o3) == (-1)) && ((o0) != 3)))), (.int .i64 i12), (.bool (decide (i12 < (len15 : Int)))), (.bool true), .undef] H6 (by kernel_rfl) ?_
            refine then_norm ?_
            refine w_ret ?_
            refine block_ret ?_
            refine then_ret ?_
            refine loop_ret ?_
            refine block_ret ?_
            refine then_ret ?_
            exact body_ret (vs := [(.int .i64 3)]) _ (by kernel_rfl) rfl h
        · replace h := h.2 (is_dec.f hc)
          refine w_exit ?_
          refine then_exit ?_
          refine loop_exit ?_
          refine block_exit ?_
          refine then_norm ?_
          refine w_seq ?_
          refine w_seq ?_
          refine w_run [0, 0, 1, 0] ?_
          obtain ⟨len21, hl, h⟩ := h
          refine t_len true o4 len21 H6 (by kernel_rfl) hl ?_
          refine t_done [(.agg [(.int .i64 o0), (.int .i64 o1), (.int .i64 o2), (.int .i64 o3), o4]), (.int .i64 channels5), d11, (.agg [(.int .i64 o0), (.int .i64 o1), (.int .i64 o2), (.int .i64 o3), o4]), (.bool ((decide (o0 < 1)) || (decide (o0 > 4)))), (.bool (decide (o0 < 3))), (.bool (((((!(decide (o0 < 3))) && ((o1) != 0)) || (((o0) != 1) && ((o2) != 0))) || ((decide (o0 < 3)) && ((o3) != 0))) || (((o0) != 3) && (decide ((len7 : Int) > 0))))), (.bool (((((((decide (o0 < 3)) && ((decide (o1 < 0)) || (decide (o1 ≥ channels5)))) || (decide (o2 < 0))) || (decide (o2 > 1000000000))) || (decide (o3 > 60))) || (decide (o3 < (-1)))) || (((o3) == (-1)) && ((o0) != 3)))), (.int .i64 i12), (.bool (decide (i12 < (len15 : Int)))), d14, (.bool (decide ((len21 : Int) > 4)))] H6 (by kernel_rfl) ?_
          refine then_norm ?_
          refine w_cond (t := (decide ((len21 : Int) > 4))) rfl (fun hc => ?_) (fun hc => ?_)
          · replace h := h.1 (is_dec.t hc)
            refine w_seq ?_
            refine w_run [0] ?_
            refine t_done [(.agg [(.int .i64 o0), (.int .i64 o1), (.int .i64 o2), (.int .i64 o3), o4]), (.int .i64 channels5), (.int .i64 2), (.agg [(.int .i64 o0), (.int .i64 o1), (.int .i64 o2), (.int .i64 o3), o4]), (.bool ((decide (o0 < 1)) || (decide (o0 > 4)))), (.bool (decide (o0 < 3))), (.bool (((((!(decide (o0 < 3))) && ((o1) != 0)) || (((o0) != 1) && ((o2) != 0))) || ((decide (o0 < 3)) && ((o3) != 0))) || (((o0) != 3) && (decide ((len7 : Int) > 0))))), (.bool (((((((decide (o0 < 3)) && ((decide (o1 < 0)) || (decide (o1 ≥ channels5)))) || (decide (o2 < 0))) || (decide (o2 > 1000000000))) || (decide (o3 > 60))) || (decide (o3 < (-1)))) || (((o3) == (-1)) && ((o0) != 3)))), (.int .i64 i12), (.bool (decide (i12 < (len15 : Int)))), d14, (.bool (decide ((len21 : Int) > 4)))] H6 (by kernel_rfl) ?_
            refine then_norm ?_
            refine w_ret ?_
            refine then_ret ?_
            exact body_ret (vs := [(.int .i64 2)]) _ (by kernel_rfl) rfl h
          · replace h := h.2 (is_dec.f hc)
            refine w_skip ?_
            refine then_norm ?_
            refine w_seq ?_
            refine w_run [0] ?_
            refine t_done [(.agg [(.int .i64 o0), (.int .i64 o1), (.int .i64 o2), (.int .i64 o3), o4]), (.int .i64 channels5), (.int .i64 0), (.agg [(.int .i64 o0), (.int .i64 o1), (.int .i64 o2), (.int .i64 o3), o4]), (.bool ((decide (o0 < 1)) || (decide (o0 > 4)))), (.bool (decide (o0 < 3))), (.bool (((((!(decide (o0 < 3))) && ((o1) != 0)) || (((o0) != 1) && ((o2) != 0))) || ((decide (o0 < 3)) && ((o3) != 0))) || (((o0) != 3) && (decide ((len7 : Int) > 0))))), (.bool (((((((decide (o0 < 3)) && ((decide (o1 < 0)) || (decide (o1 ≥ channels5)))) || (decide (o2 < 0))) || (decide (o2 > 1000000000))) || (decide (o3 > 60))) || (decide (o3 < (-1)))) || (((o3) == (-1)) && ((o0) != 3)))), (.int .i64 i12), (.bool (decide (i12 < (len15 : Int)))), d14, (.bool (decide ((len21 : Int) > 4)))] H6 (by kernel_rfl) ?_
            refine then_norm ?_
            refine w_ret ?_
            exact body_ret (vs := [(.int .i64 0)]) _ (by kernel_rfl) rfl h

def rf_FWorld_Pass (nFWorld_pick nFWorld_Choice : Nat) : RFunc := ⟨1, 9, [],
 ((.seq (.ops [⟨.move (.var 0), none, none, true⟩, ⟨.build [.bool false, .bool false, .bool false, .bool false, .bool false] [], none, none, true⟩, ⟨.nilCheck (.loc 0), none, none, true⟩, ⟨.fieldAddr 20 (.loc 2), none, none, true⟩, ⟨.store 5 (.loc 3) (.loc 1) [], none, none, true⟩])
 ((.seq ((.seq (.ops [⟨.move (.var 0), none, none, true⟩, ⟨.callS nFWorld_pick [(.loc 0)], none, none, true⟩, ⟨.move (.loc 1), none, (some 1), true⟩])
 (.block 0 (.loop ((.seq ((.seq (.ops [⟨.move (.var 1), none, none, true⟩, ⟨.bin .geq .no (.loc 0) (.k (.int .i64 0)), none, (some 2), true⟩])
 (.cond (.var 2) (.skip) (.exit 0))))
 ((.seq (.block 1 ((.seq (.ops [⟨.move (.var 0), none, none, true⟩, ⟨.move (.var 1), none, none, true⟩, ⟨.nilCheck (.loc 0), none, none, true⟩, ⟨.fieldAddr 20 (.loc 2), none, none, true⟩, ⟨.indexArr 5 1 (.loc 3) (.loc 1), none, none, true⟩, ⟨.store 1 (.loc 4) (.k (.bool true)) [], none, none, true⟩])
 ((.seq (.ops [⟨.move (.var 0), none, none, true⟩, ⟨.move (.var 1), none, none, true⟩, ⟨.callS nFWorld_Choice [(.loc 0), (.loc 1)], none, none, true⟩, ⟨.move (.loc 2), none, (some 3), true⟩])
 ((.seq ((.seq (.ops [⟨.move (.var 3), none, none, true⟩, ⟨.bin .eql .no (.loc 0) (.k (.int .i64 (-2))), none, (some 4), true⟩])
 (.cond (.var 4) (.exit 1) (.skip))))
 ((.seq (.ops [⟨.move (.var 0), none, none, false⟩, ⟨.nilCheck (.loc 0), none, none, false⟩, ⟨.fieldAddr 1 (.loc 1), none, none, false⟩, ⟨.load none (.loc 2), none, none, false⟩, ⟨.move (.var 1), none, none, false⟩, ⟨.indexAddr 1 (.loc 3) (.loc 4), none, none, false⟩, ⟨.load none (.loc 5), none, none, false⟩, ⟨.move (.var 0), none, none, false⟩, ⟨.move (.var 1), none, none, false⟩, ⟨.nilCheck (.loc 7), none, none, false⟩, ⟨.fieldAddr 10 (.loc 9), none, none, false⟩, ⟨.indexArr 5 1 (.loc 10) (.loc 8), none, none, false⟩, ⟨.load none (.loc 11), none, none, false⟩, ⟨.indexAddr 5 (.loc 6) (.loc 12), none, none, false⟩, ⟨.load (some 5) (.loc 13), none, none, false⟩, ⟨.tomb 1 (.k (.agg [.int .i64 0, .int .i64 0, .int .i64 0, .int .i64 0, .empty])), none, (some 5), false⟩, ⟨.upd 5 0 (.loc 15) (.loc 14), none, (some 5), true⟩])
 ((.seq (.ops [⟨.move (.var 0), none, none, false⟩, ⟨.nilCheck (.loc 0), none, none, false⟩, ⟨.fieldAddr 25 (.loc 1), none, none, false⟩, ⟨.load none (.loc 2), none, none, false⟩, ⟨.move (.var 1), none, none, false⟩, ⟨.move (.var 3), none, none, false⟩, ⟨.field 0 none (.var 5), none, none, false⟩, ⟨.field 2 none (.var 5), none, none, false⟩, ⟨.build [.int .i64 0, .int .i64 0, .int .i64 0, .int .i64 0] [(0, 1, (.loc 3)), (1, 1, (.loc 4)), (2, 1, (.loc 5)), (3, 1, (.loc 7))], none, none, false⟩, ⟨.tomb 1 (.k (.agg [.int .i64 0, .int .i64 0, .int .i64 0, .int .i64 0])), none, (some 8), false⟩, ⟨.upd 4 0 (.loc 9) (.loc 8), none, (some 8), true⟩])
 ((.seq ((.seq (.ops [⟨.field 0 none (.var 5), none, none, true⟩, ⟨.field 0 none (.var 5), none, none, true⟩, ⟨.bin .eql .no (.loc 1) (.k (.int .i64 1)), none, (some 6), true⟩])
 (.cond (.var 6) (.ops [⟨.move (.var 0), none, none, false⟩, ⟨.move (.var 3), none, none, false⟩, ⟨.move (.var 0), none, none, false⟩, ⟨.move (.var 3), none, none, false⟩, ⟨.nilCheck (.loc 2), none, none, false⟩, ⟨.fieldAddr 2 (.loc 4), none, none, false⟩, ⟨.indexArr 4 1 (.loc 5) (.loc 3), none, none, false⟩, ⟨.load none (.loc 6), none, none, false⟩, ⟨.field 0 none (.var 5), none, none, false⟩, ⟨.field 2 none (.var 5), none, none, false⟩, ⟨.buildSlice 1 [.int .i64 0] [(0, 1, (.loc 9))] 1, none, none, false⟩, ⟨.append 1 8 (.loc 7) (.loc 10), none, none, true⟩, ⟨.nilCheck (.loc 0), none, none, false⟩, ⟨.fieldAddr 2 (.loc 12), none, none, false⟩, ⟨.indexArr 4 1 (.loc 13) (.loc 1), none, none, true⟩, ⟨.store 1 (.loc 14) (.loc 11) [], none, none, true⟩]) ((.seq (.ops [⟨.move (.var 3), none, none, true⟩, ⟨.bin .geq .no (.loc 0) (.k (.int .i64 0)), none, (some 7), true⟩])
 (.cond (.var 7) ((.seq (.ops [⟨.move (.var 0), none, none, false⟩, ⟨.move (.var 3), none, none, false⟩, ⟨.nilCheck (.loc 0), none, none, false⟩, ⟨.fieldAddr 2 (.loc 2), none, none, false⟩, ⟨.indexArr 4 1 (.loc 3) (.loc 1), none, none, false⟩, ⟨.load none (.loc 4), none, none, false⟩, ⟨.move (.var 0), none, none, false⟩, ⟨.move (.var 3), none, none, false⟩, ⟨.nilCheck (.loc 6), none, none, false⟩, ⟨.fieldAddr 6 (.loc 8), none, none, false⟩, ⟨.indexArr 4 1 (.loc 9) (.loc 7), none, none, false⟩, ⟨.load none (.loc 10), none, none, false⟩, ⟨.indexAddr 1 (.loc 5) (.loc 11), none, none, true⟩, ⟨.load none (.loc 12), none, none, true⟩, ⟨.field 0 none (.var 8), none, none, true⟩, ⟨.upd 1 3 (.var 8) (.loc 13), none, (some 8), true⟩])
 (.ops [⟨.move (.var 0), none, none, true⟩, ⟨.move (.var 3), none, none, true⟩, ⟨.nilCheck (.loc 0), none, none, true⟩, ⟨.fieldAddr 6 (.loc 2), none, none, true⟩, ⟨.indexArr 4 1 (.loc 3) (.loc 1), none, none, true⟩, ⟨.load none (.loc 4), none, none, true⟩, ⟨.bin .add .no (.loc 5) (.k (.int .i64 1)), none, none, true⟩, ⟨.nilCheck (.loc 0), none, none, false⟩, ⟨.fieldAddr 6 (.loc 7), none, none, false⟩, ⟨.indexArr 4 1 (.loc 8) (.loc 1), none, none, true⟩, ⟨.store 1 (.loc 9) (.loc 6) [], none, none, true⟩]))) (.skip)))))))
 ((.seq (.ops [⟨.move (.var 0), none, none, false⟩, ⟨.move (.var 0), none, none, false⟩, ⟨.nilCheck (.loc 1), none, none, false⟩, ⟨.fieldAddr 26 (.loc 2), none, none, false⟩, ⟨.load none (.loc 3), none, none, false⟩, ⟨.field 0 (some 4) (.var 8), none, none, false⟩, ⟨.buildSlice 4 [.int .i64 0, .int .i64 0, .int .i64 0, .int .i64 0] [(0, 4, (.loc 5))] 1, none, none, false⟩, ⟨.append 4 32 (.loc 4) (.loc 6), none, none, true⟩, ⟨.nilCheck (.loc 0), none, none, true⟩, ⟨.fieldAddr 26 (.loc 8), none, none, true⟩, ⟨.store 1 (.loc 9) (.loc 7) [], none, none, true⟩])
 ((.seq (.ops [⟨.move (.var 0), none, none, true⟩, ⟨.move (.var 1), none, none, true⟩, ⟨.nilCheck (.loc 0), none, none, true⟩, ⟨.fieldAddr 10 (.loc 2), none, none, true⟩, ⟨.indexArr 5 1 (.loc 3) (.loc 1), none, none, true⟩, ⟨.load none (.loc 4), none, none, true⟩, ⟨.bin .add .no (.loc 5) (.k (.int .i64 1)), none, none, true⟩, ⟨.nilCheck (.loc 0), none, none, false⟩, ⟨.fieldAddr 10 (.loc 7), none, none, false⟩, ⟨.indexArr 5 1 (.loc 8) (.loc 1), none, none, true⟩, ⟨.store 1 (.loc 9) (.loc 6) [], none, none, true⟩])
 (.ops [⟨.move (.var 0), none, none, false⟩, ⟨.move (.var 1), none, none, false⟩, ⟨.move (.var 0), none, none, true⟩, ⟨.nilCheck (.loc 2), none, none, true⟩, ⟨.fieldAddr 25 (.loc 3), none, none, true⟩, ⟨.load none (.loc 4), none, none, true⟩, ⟨.bin .add .no (.loc 5) (.k (.int .i64 1)), none, none, true⟩, ⟨.nilCheck (.loc 0), none, none, false⟩, ⟨.fieldAddr 15 (.loc 7), none, none, false⟩, ⟨.indexArr 5 1 (.loc 8) (.loc 1), none, none, true⟩, ⟨.store 1 (.loc 9) (.loc 6) [], none, none, true⟩]))))))))))))))))))
 (.ops [⟨.move (.var 0), none, none, true⟩, ⟨.callS nFWorld_pick [(.loc 0)], none, none, true⟩, ⟨.move (.loc 1), none, (some 1), true⟩])))))))))
 (.ops [⟨.move (.var 0), none, none, true⟩, ⟨.nilCheck (.loc 0), none, none, true⟩, ⟨.fieldAddr 25 (.loc 1), none, none, true⟩, ⟨.load none (.loc 2), none, none, true⟩, ⟨.bin .add .no (.loc 3) (.k (.int .i64 1)), none, none, true⟩, ⟨.nilCheck (.loc 0), none, none, true⟩, ⟨.fieldAddr 25 (.loc 5), none, none, true⟩, ⟨.store 1 (.loc 6) (.loc 4) [], none, none, true⟩]))))), none⟩
theorem v_FWorld_Pass {F : Nat → Option RFunc} {me nFWorld_pick nFWorld_Choice : Nat} (hF : F me = some (rf_FWorld_Pass nFWorld_pick nFWorld_Choice)) {fl : Nat} {H : Heap} {Q : AV → Heap → Prop} (wb0 : Nat) (wo1 : Nat)
  (h : ∃ H2 : Heap, putA fl H wb0 (wo1 + 20) 5 (.agg [(.bool false), (.bool false), (.bool false), (.bool false), (.bool false)]) = some H2 ∧ Ret F fl nFWorld_pick [(.ptr wb0 wo1)] H2 (fun v5 H4 => ∃ (r3 : Int), v5 = (.int .i64 r3) ∧ ∃ (J6 : Nat → Int → Heap → Prop) (k7 : Nat), J6 k7 r3 H4 ∧ (∀ (m8 : Nat) (p9 : Int) (H17 : Heap), J6 m8 p9 H17 → ((p9 ≥ 0) → (0 ≤ p9 ∧ p9 < ((5 : Nat) : Int)) ∧ ∃ H18 : Heap, putA fl H17 wb0 ((wo1 + 20) + Int.toNat p9 * 1) 1 (.bool true) = some H18 ∧ Ret F fl nFWorld_Choice [(.ptr wb0 wo1), (.int .i64 p9)] H18 (fun v21 H20 => ∃ (r19 : Int), v21 = (.int .i64 r19) ∧ ((r19 = (-2)) → Ret F fl nFWorld_pick [(.ptr wb0 wo1)] H20 (fun v24 H23 => ∃ (r22 : Int), v24 = (.int .i64 r22) ∧ ∃ m25 : Nat, m25 < m8 ∧ J6 m25 r22 H23)) ∧ (¬(r19 = (-2)) → ∃ (e26 : AV), rload H20 none wb0 (wo1 + 1) = some e26 ∧ ∃ (e27 : AV), getA H20 1 none e26 p9 0 = some e27 ∧ (0 ≤ p9 ∧ p9 < ((5 : Nat) : Int)) ∧ ∃ (e29 : Int), rload H20 none wb0 ((wo1 + 10) + Int.toNat p9 * 1) = some (.int .i64 e29) ∧ ∃ (e30 : Int) (e31 : Int) (e32 : Int) (e33 : Int) (e34 : AV), getA H20 5 (some 5) e27 e29 0 = some (.agg [(.int .i64 e30), (.int .i64 e31), (.int .i64 e32), (.int .i64 e33), e34]) ∧ ∀ (H36 : Heap), Dead1 H20 1 H36 → Scal e34 ∧ ∃ (e38 : Int), rload H36 none wb0 (wo1 + 25) = some (.int .i64 e38) ∧ ∀ (H39 : Heap), Dead1 H36 1 H39 → ((e30 = 1) → (0 ≤ r19 ∧ r19 < ((4 : Nat) : Int)) ∧ ∃ (e40 : AV), rload H39 none wb0 ((wo1 + 2) + Int.toNat r19 * 1) = some e40 ∧ ∀ (b41 : Nat) (H42 : Heap), NewB H39 1 [(.int .i64 e32)] b41 H42 → ∃ (a43 : AV) (H44 : Heap), appA fl true 1 8 H42 e40 (.slice b41 0 1 (some 1)) = some (a43, H44) ∧ (0 ≤ r19 ∧ r19 < ((4 : Nat) : Int)) ∧ ∃ H45 : Heap, putA fl H44 wb0 ((wo1 + 2) + Int.toNat r19 * 1) 1 a43 = some H45 ∧ ∃ (e46 : AV), rload H45 none wb0 (wo1 + 26) = some e46 ∧ ∀ (b47 : Nat) (H48 : Heap), NewB H45 4 [(.int .i64 e38), (.int .i64 p9), (.int .i64 r19), (.int .i64 e32)] b47 H48 → ∃ (a49 : AV) (H50 : Heap), appA fl true 4 32 H48 e46 (.slice b47 0 1 (some 1)) = some (a49, H50) ∧ ∃ H51 : Heap, putA fl H50 wb0 (wo1 + 26) 1 a49 = some H51 ∧ (0 ≤ p9 ∧ p9 < ((5 : Nat) : Int)) ∧ ∃ (e52 : Int), rload H51 none wb0 ((wo1 + 10) + Int.toNat p9 * 1) = some (.int .i64 e52) ∧ (0 ≤ p9 ∧ p9 < ((5 : Nat) : Int)) ∧ ∃ H53 : Heap, putA fl H51 wb0 ((wo1 + 10) + Int.toNat p9 * 1) 1 (.int .i64 (IntKind.wrap .i64 (e52 + 1))) = some H53 ∧ ∃ (e54 : Int), rload H53 none wb0 (wo1 + 25) = some (.int .i64 e54) ∧ (0 ≤ p9 ∧ p9 < ((5 : Nat) : Int)) ∧ ∃ H55 : Heap, putA fl H53 wb0 ((wo1 + 15) + Int.toNat p9 * 1) 1 (.int .i64 (IntKind.wrap .i64 (e54 + 1))) = some H55 ∧ Ret F fl nFWorld_pick [(.ptr wb0 wo1)] H55 (fun v58 H57 => ∃ (r56 : Int), v58 = (.int .i64 r56) ∧ ∃ m59 : Nat, m59 < m8 ∧ J6 m59 r56 H57)) ∧ (¬(e30 = 1) → ((r19 ≥ 0) → (0 ≤ r19 ∧ r19 < ((4 : Nat) : Int)) ∧ ∃ (e60 : AV), rload H39 none wb0 ((wo1 + 2) + Int.toNat r19 * 1) = some e60 ∧ (0 ≤ r19 ∧ r19 < ((4 : Nat) : Int)) ∧ ∃ (e61 : Int), rload H39 none wb0 ((wo1 + 6) + Int.toNat r19 * 1) = some (.int .i64 e61) ∧ ∃ (e62 : Int), getA H39 1 none e60 e61 0 = some (.int .i64 e62) ∧ (0 ≤ r19 ∧ r19 < ((4 : Nat) : Int)) ∧ ∃ (e64 : Int), rload H39 none wb0 ((wo1 + 6) + Int.toNat r19 * 1) = some (.int .i64 e64) ∧ (0 ≤ r19 ∧ r19 < ((4 : Nat) : Int)) ∧ ∃ H65 : Heap, putA fl H39 wb0 ((wo1 + 6) + Int.toNat r19 * 1) 1 (.int .i64 (IntKind.wrap .i64 (e64 + 1))) = some H65 ∧ ∃ (e66 : AV), rload H65 none wb0 (wo1 + 26) = some e66 ∧ ∀ (b67 : Nat) (H68 : Heap), NewB H65 4 [(.int .i64 e38), (.int .i64 p9), (.int .i64 r19), (.int .i64 e62)] b67 H68 → ∃ (a69 : AV) (H70 : Heap), appA fl true 4 32 H68 e66 (.slice b67 0 1 (some 1)) = some (a69, H70) ∧ ∃ H71 : Heap, putA fl H70 wb0 (wo1 + 26) 1 a69 = some H71 ∧ (0 ≤ p9 ∧ p9 < ((5 : Nat) : Int)) ∧ ∃ (e72 : Int), rload H71 none wb0 ((wo1 + 10) + Int.toNat p9 * 1) = some (.int .i64 e72) ∧ (0 ≤ p9 ∧ p9 < ((5 : Nat) : Int)) ∧ ∃ H73 : Heap, putA fl H71 wb0 ((wo1 + 10) + Int.toNat p9 * 1) 1 (.int .i64 (IntKind.wrap .i64 (e72 + 1))) = some H73 ∧ ∃ (e74 : Int), rload H73 none wb0 (wo1 + 25) = some (.int .i64 e74) ∧ (0 ≤ p9 ∧ p9 < ((5 : Nat) : Int)) ∧ ∃ H75 : Heap, putA fl H73 wb0 ((wo1 + 15) + Int.toNat p9 * 1) 1 (.int .i64 (IntKind.wrap .i64 (e74 + 1))) = some H75 ∧ Ret F fl nFWorld_pick [(.ptr wb0 wo1)] H75 (fun v78 H77 => ∃ (r76 : Int), v78 = (.int .i64 r76) ∧ ∃ m79 : Nat, m79 < m8 ∧ J6 m79 r76 H77)) ∧ (¬(r19 ≥ 0) → ∃ (e80 : AV), rload H39 none wb0 (wo1 + 26) = some e80 ∧ ∀ (b81 : Nat) (H82 : Heap), NewB H39 4 [(.int .i64 e38), (.int .i64 p9), (.int .i64 r19), (.int .i64 e32)] b81 H82 → ∃ (a83 : AV) (H84 : Heap), appA fl true 4 32 H82 e80 (.slice b81 0 1 (some 1)) = some (a83, H84) ∧ ∃ H85 : Heap, putA fl H84 wb0 (wo1 + 26) 1 a83 = some H85 ∧ (0 ≤ p9 ∧ p9 < ((5 : Nat) : Int)) ∧ ∃ (e86 : Int), rload H85 none wb0 ((wo1 + 10) + Int.toNat p9 * 1) = some (.int .i64 e86) ∧ (0 ≤ p9 ∧ p9 < ((5 : Nat) : Int)) ∧ ∃ H87 : Heap, putA fl H85 wb0 ((wo1 + 10) + Int.toNat p9 * 1) 1 (.int .i64 (IntKind.wrap .i64 (e86 + 1))) = some H87 ∧ ∃ (e88 : Int), rload H87 none wb0 (wo1 + 25) = some (.int .i64 e88) ∧ (0 ≤ p9 ∧ p9 < ((5 : Nat) : Int)) ∧ ∃ H89 : Heap, putA fl H87 wb0 ((wo1 + 15) + Int.toNat p9 * 1) 1 (.int .i64 (IntKind.wrap .i64 (e88 + 1))) = some H89 ∧ Ret F fl nFWorld_pick [(.ptr wb0 wo1)] H89 (fun v92 H91 => ∃ (r90 : Int), v92 = (.int .i64 r90) ∧ ∃ m93 : Nat, m93 < m8 ∧ J6 m93 r90 H91)))))) ∧ (¬(p9 ≥ 0) → ∃ (e94 : Int), rload H17 none wb0 (wo1 + 25) = some (.int .i64 e94) ∧ ∃ H95 : Heap, putA fl H17 wb0 (wo1 + 25) 1 (.int .i64 (IntKind.wrap .i64 (e94 + 1))) = some H95 ∧ Q .undef H95)))) : Ret F fl me [(.ptr wb0 wo1)] H Q := by
  refine ret_intro hF rfl ?_
  refine w_seq ?_
  refine w_run [0, 1, 1, 1, 1] ?_
  refine t_build true [(.bool false), (.bool false), (.bool false), (.bool false), (.bool false)] [] [] [(.bool false), (.bool false), (.bool false), (.bool false), (.bool false)] H (by kernel_rfl) (by kernel_rfl) ?_
  refine t_ptr true wb0 wo1 H (by kernel_rfl) ?_
  refine t_op true (.fieldAddr 20 (.loc 0)) [.ptr wb0 wo1] H (.ptr wb0 (wo1 + 20)) H (by kernel_rfl) rfl ?_
  obtain ⟨H2, hp, h⟩ := h
  refine t_store true 5 wb0 (wo1 + 20) (.agg [(.bool false), (.bool false), (.bool false), (.bool false), (.bool false)]) H2 H (by kernel_rfl) hp ?_
  refine t_done [(.ptr wb0 wo1), .undef, .undef, .undef, .undef, .undef, .undef, .undef, .undef] H2 (by kernel_rfl) ?_
  refine then_norm ?_
  refine w_seq ?_
  refine w_seq ?_
  refine w_run [0, 1, 0] ?_
  refine t_call true nFWorld_pick [(.ptr wb0 wo1)] H2 (by kernel_rfl) h ?_
  clear h
  rintro _ H4 ⟨r3, rfl, h⟩
  refine t_done [(.ptr wb0 wo1), (.int .i64 r3), .undef, .undef, .undef, .undef, .undef, .undef, .undef] H4 (by kernel_rfl) ?_
  refine then_norm ?_
  refine w_block ?_
  obtain ⟨J6, k7, h0, h⟩ := h
  refine w_loop (I := fun mI EI HI => ∃ (p9 : Int) (d10 : AV) (d11 : AV) (d12 : AV) (d13 : AV) (d14 : AV) (d15 : AV) (d16 : AV), EI = [(.ptr wb0 wo1), (.int .i64 p9), d10, d11, d12, d13, d14, d15, d16] ∧ J6 mI p9 HI) ?_ k7 ⟨_, _, _, _, _, _, _, _, rfl, h0⟩
  clear h0
  rintro m8 EI H17 ⟨p9, d10, d11, d12, d13, d14, d15, d16, rfl, hJ⟩
  replace h := h m8 p9 H17 hJ
  clear hJ
  refine w_seq ?_
  refine w_seq ?_
  refine w_run [0, 0] ?_
  refine t_done [(.ptr wb0 wo1), (.int .i64 p9), (.bool (decide (p9 ≥ 0))), d11, d12, d13, d14, d15, d16] H17 (by kernel_rfl) ?_
  refine then_norm ?_
  refine w_cond (t := (decide (p9 ≥ 0))) rfl (fun hc => ?_) (fun hc => ?_)
  · replace h := h.1 (is_dec.t hc)
    refine w_skip ?_
    refine then_norm ?_
    refine w_seq ?_
    refine w_block ?_
    refine w_seq ?_
    refine w_run [0, 0, 1, 1, 1, 1] ?_
    refine t_ptr true wb0 wo1 H17 (by kernel_rfl) ?_
    refine t_op true (.fieldAddr 20 (.loc 0)) [.ptr wb0 wo1] H17 (.ptr wb0 (wo1 + 20)) H17 (by kernel_rfl) rfl ?_
    obtain ⟨hi, h⟩ := h
    refine t_arr true 5 1 wb0 (wo1 + 20) .i64 p9 H17 (by kernel_rfl) hi ?_
    obtain ⟨H18, hp, h⟩ := h
    refine t_store true 1 wb0 ((wo1 + 20) + Int.toNat p9 * 1) (.bool true) H18 H17 (by kernel_rfl) hp ?_
    refine t_done [(.ptr wb0 wo1), (.int .i64 p9), (.bool (decide (p9 ≥ 0))), d11, d12, d13, d14, d15, d16] H18 (by kernel_rfl) ?_
    refine then_norm ?_
    refine w_seq ?_
    refine w_run [0, 0, 1, 0] ?_
    refine t_call true nFWorld_Choice [(.ptr wb0 wo1), (.int .i64 p9)] H18 (by kernel_rfl) h ?_
    clear h
    rintro _ H20 ⟨r19, rfl, h⟩
    refine t_done [(.ptr wb0 wo1), (.int .i64 p9), (.bool (decide (p9 ≥ 0))), (.int .i64 r19), d12, d13, d14, d15, d16] H20 (by kernel_rfl) ?_
    refine then_norm ?_
    refine w_seq ?_
    refine w_seq ?_
    refine w_run [0, 0] ?_
    refine t_done [(.ptr wb0 wo1), (.int .i64 p9), (.bool (decide (p9 ≥ 0))), (.int .i64 r19), (.bool ((r19) == (-2))), d13, d14, d15, d16] H20 (by kernel_rfl) ?_
    refine then_norm ?_
    refine w_cond (t := ((r19) == (-2))) rfl (fun hc => ?_) (fun hc => ?_)
    · replace h := h.1 (is_eq.t hc)
      refine w_exit ?_
      refine then_exit ?_
      refine block_exit ?_
      refine then_norm ?_
      refine w_run [0, 1, 0] ?_
      refine t_call true nFWorld_pick [(.ptr wb0 wo1)] H20 (by kernel_rfl) h ?_
      clear h
      rintro _ H23 ⟨r22, rfl, h⟩
      refine t_done [(.ptr wb0 wo1), (.int .i64 r22), (.bool (decide (p9 ≥ 0))), (.int .i64 r19), (.bool ((r19) == (-2))), d13, d14, d15, d16] H23 (by kernel_rfl) ?_
      obtain ⟨m', hm, h⟩ := h
      refine loop_norm ⟨m', hm, _, _, _, _, _, _, _, _, rfl, h⟩
    · replace h := h.2 (is_eq.f hc)
      refine w_skip ?_
      refine then_norm ?_
      refine w_seq ?_
      refine w_run [0, 1, 1, 1, 0, 1, 1, 0, 0, 1, 1, 1, 1, 1, 1, 1, 1] ?_
      refine t_ptr false wb0 wo1 H20 (by kernel_rfl) ?_
      refine t_op false (.fieldAddr 1 (.loc 0)) [.ptr wb0 wo1] H20 (.ptr wb0 (wo1 + 1)) H20 (by kernel_rfl) rfl ?_
      obtain ⟨e26, hl, h⟩ := h
      refine t_load false none wb0 (wo1 + 1) e26 H20 (by kernel_rfl) hl ?_
      obtain ⟨e27, hg28, h⟩ := h
      refine t_idxG false 1 e26 .i64 p9 H20 (by kernel_rfl) hg28 ?_
      refine t_loadG false none 1 e26 p9 0 e27 H20 (by kernel_rfl) hg28 ?_
      refine t_ptr false wb0 wo1 H20 (by kernel_rfl) ?_
      refine t_op false (.fieldAddr 10 (.loc 0)) [.ptr wb0 wo1] H20 (.ptr wb0 (wo1 + 10)) H20 (by kernel_rfl) rfl ?_
      obtain ⟨hi, h⟩ := h
      refine t_arr false 5 1 wb0 (wo1 + 10) .i64 p9 H20 (by kernel_rfl) hi ?_
      obtain ⟨e29, hl, h⟩ := h
      refine t_load false none wb0 ((wo1 + 10) + Int.toNat p9 * 1) (.int .i64 e29) H20 (by kernel_rfl) hl ?_
      obtain ⟨e30, e31, e32, e33, e34, hg35, h⟩ := h
      refine t_idxG false 5 e27 .i64 e29 H20 (by kernel_rfl) hg35 ?_
      refine t_loadG false (some 5) 5 e27 e29 0 (.agg [(.int .i64 e30), (.int .i64 e31), (.int .i64 e32), (.int .i64 e33), e34]) H20 (by kernel_rfl) hg35 ?_
      obtain ⟨H36, hb⟩ : ∃ H', Dead1 H20 1 H' := ⟨_, ⟨rfl⟩⟩
      replace h := h H36 hb
      refine t_tomb false 1 (.agg [(.int .i64 0), (.int .i64 0), (.int .i64 0), (.int .i64 0), .empty]) [(.int .i64 0), (.int .i64 0), (.int .i64 0), (.int .i64 0), .empty] H36 H20 (by kernel_rfl) rfl hb ?_
      obtain ⟨hs37, h⟩ := h
      refine t_upd true 5 0 [(.int .i64 0), (.int .i64 0), (.int .i64 0), (.int .i64 0), .empty] (.agg [(.int .i64 e30), (.int .i64 e31), (.int .i64 e32), (.int .i64 e33), e34]) [(.int .i64 e30), (.int .i64 e31), (.int .i64 e32), (.int .i64 e33), e34] [(.int .i64 e30), (.int .i64 e31), (.int .i64 e32), (.int .i64 e33), e34] H36 (by kernel_rfl) rfl (all_c rfl (all_c rfl (all_c rfl (all_c rfl (all_c hs37.2 all_n))))) ⟨rfl, Nat.le_of_ble_eq_true (by kernel_rfl), rfl⟩ ?_
      refine t_done [(.ptr wb0 wo1), (.int .i64 p9), (.bool (decide (p9 ≥ 0))), (.int .i64 r19), (.bool ((r19) == (-2))), (.agg [(.int .i64 e30), (.int .i64 e31), (.int .i64 e32), (.int .i64 e33), e34]), d14, d15, d16] H36 (by kernel_rfl) ?_
      refine then_norm ?_
      refine w_seq ?_
      refine w_run [0, 1, 1, 1, 0, 0, 0, 0, 1, 1, 1] ?_
      refine t_ptr false wb0 wo1 H36 (by kernel_rfl) ?_
      refine t_op false (.fieldAddr 25 (.loc 0)) [.ptr wb0 wo1] H36 (.ptr wb0 (wo1 + 25)) H36 (by kernel_rfl) rfl ?_
      obtain ⟨e38, hl, h⟩ := h
      refine t_load false none wb0 (wo1 + 25) (.int .i64 e38) H36 (by kernel_rfl) hl ?_
      refine t_build false [(.int .i64 0), (.int .i64 0), (.int .i64 0), (.int .i64 0)] [(0, 1, .loc 0), (1, 1, .loc 1), (2, 1, .loc 2), (3, 1, .loc 3)] [(.int .i64 e38), (.int .i64 p9), (.int .i64 r19), (.int .i64 e32)] [(.int .i64 e38), (.int .i64 p9), (.int .i64 r19), (.int .i64 e32)] H36 (by kernel_rfl) (fill_c (vs := [(.int .i64 e38)]) (size := 1) rfl (by kernel_rfl) (by kernel_rfl) (fill_c (vs := [(.int .i64 p9)]) (size := 1) rfl (by kernel_rfl) (by kernel_rfl) (fill_c (vs := [(.int .i64 r19)]) (size := 1) rfl (by kernel_rfl) (by kernel_rfl) (fill_c (vs := [(.int .i64 e32)]) (size := 1) rfl (by kernel_rfl) (by kernel_rfl) (by kernel_rfl))))) ?_
      obtain ⟨H39, hb⟩ : ∃ H', Dead1 H36 1 H' := ⟨_, ⟨rfl⟩⟩
      replace h := h H39 hb
      refine t_tomb false 1 (.agg [(.int .i64 0), (.int .i64 0), (.int .i64 0), (.int .i64 0)]) [(.int .i64 0), (.int .i64 0), (.int .i64 0), (.int .i64 0)] H39 H36 (by kernel_rfl) rfl hb ?_
      refine t_upd true 4 0 [(.int .i64 0), (.int .i64 0), (.int .i64 0), (.int .i64 0)] (.agg [(.int .i64 e38), (.int .i64 p9), (.int .i64 r19), (.int .i64 e32)]) [(.int .i64 e38), (.int .i64 p9), (.int .i64 r19), (.int .i64 e32)] [(.int .i64 e38), (.int .i64 p9), (.int .i64 r19), (.int .i64 e32)] H39 (by kernel_rfl) rfl (all_c rfl (all_c rfl (all_c rfl (all_c rfl all_n)))) ⟨rfl, Nat.le_of_ble_eq_true (by kernel_rfl), rfl⟩ ?_
      refine t_done [(.ptr wb0 wo1), (.int .i64 p9), (.bool (decide (p9 ≥ 0))), (.int .i64 r19), (.bool ((r19) == (-2))), (.agg [(.int .i64 e30), (.int .i64 e31), (.int .i64 e32), (.int .i64 e33), e34]), d14, d15, (.agg [(.int .i64 e38), (.int .i64 p9), (.int .i64 r19), (.int .i64 e32)])] H39 (by kernel_rfl) ?_
      refine then_norm ?_
      refine w_seq ?_
      refine w_seq ?_
      refine w_run [0, 0, 0] ?_
      refine t_done [(.ptr wb0 wo1), (.int .i64 p9), (.bool (decide (p9 ≥ 0))), (.int .i64 r19), (.bool ((r19) == (-2))), (.agg [(.int .i64 e30), (.int .i64 e31), (.int .i64 e32), (.int .i64 e33), e34]), (.bool ((e30) == 1)), d15, (.agg [(.int .i64 e38), (.int .i64 p9), (.int .i64 r19), (.int .i64 e32)])] H39 (by kernel_rfl) ?_
      refine then_norm ?_
      refine w_cond (t := ((e30) == 1)) rfl (fun hc => ?_) (fun hc => ?_)
      · replace h := h.1 (is_eq.t hc)
        refine w_run [0, 0, 0, 0, 1, 1, 1, 1, 0, 0, 1, 1, 1, 1, 1, 1] ?_
        refine t_ptr false wb0 wo1 H39 (by kernel_rfl) ?_
        refine t_op false (.fieldAddr 2 (.loc 0)) [.ptr wb0 wo1] H39 (.ptr wb0 (wo1 + 2)) H39 (by kernel_rfl) rfl ?_
        obtain ⟨hi, h⟩ := h
        refine t_arr false 4 1 wb0 (wo1 + 2) .i64 r19 H39 (by kernel_rfl) hi ?_
        obtain ⟨e40, hl, h⟩ := h
        refine t_load false none wb0 ((wo1 + 2) + Int.toNat r19 * 1) e40 H39 (by kernel_rfl) hl ?_
        obtain ⟨b41, H42, hb⟩ : ∃ b H', NewB H39 1 [(.int .i64 e32)] b H' := ⟨_, _, rfl, rfl⟩
        replace h := h b41 H42 hb
        refine t_bs false 1 [(.int .i64 0)] [(0, 1, .loc 0)] 1 [(.int .i64 e32)] [(.int .i64 e32)] b41 H42 H39 (by kernel_rfl) (fill_c (vs := [(.int .i64 e32)]) (size := 1) rfl (by kernel_rfl) (by kernel_rfl) (by kernel_rfl)) hb ?_
        obtain ⟨a43, H44, ha, h⟩ := h
        refine t_app true 1 8 e40 (.slice b41 0 1 (some 1)) a43 H44 H42 (by kernel_rfl) ha ?_
        refine t_ptr false wb0 wo1 H44 (by kernel_rfl) ?_
        refine t_op false (.fieldAddr 2 (.loc 0)) [.ptr wb0 wo1] H44 (.ptr wb0 (wo1 + 2)) H44 (by kernel_rfl) rfl ?_
        obtain ⟨hi, h⟩ := h
        refine t_arr true 4 1 wb0 (wo1 + 2) .i64 r19 H44 (by kernel_rfl) hi ?_
        obtain ⟨H45, hp, h⟩ := h
        refine t_store true 1 wb0 ((wo1 + 2) + Int.toNat r19 * 1) a43 H45 H44 (by kernel_rfl) hp ?_
        refine t_done [(.ptr wb0 wo1), (.int .i64 p9), (.bool (decide (p9 ≥ 0))), (.int .i64 r19), (.bool ((r19) == (-2))), (.agg [(.int .i64 e30), (.int .i64 e31), (.int .i64 e32), (.int .i64 e33), e34]), (.bool ((e30) == 1)), d15, (.agg [(.int .i64 e38), (.int .i64 p9), (.int .i64 r19), (.int .i64 e32)])] H45 (by kernel_rfl) ?_
        refine then_norm ?_
        refine w_seq ?_
        refine w_run [0, 0, 1, 1, 1, 0, 1, 1, 1, 1, 1] ?_
        refine t_ptr false wb0 wo1 H45 (by kernel_rfl) ?_
        refine t_op false (.fieldAddr 26 (.loc 0)) [.ptr wb0 wo1] H45 (.ptr wb0 (wo1 + 26)) H45 (by kernel_rfl) rfl ?_
        obtain ⟨e46, hl, h⟩ := h
        refine t_load false none wb0 (wo1 + 26) e46 H45 (by kernel_rfl) hl ?_
        obtain ⟨b47, H48, hb⟩ : ∃ b H', NewB H45 4 [(.int .i64 e38), (.int .i64 p9), (.int .i64 r19), (.int .i64 e32)] b H' := ⟨_, _, rfl, rfl⟩
        replace h := h b47 H48 hb
        refine t_bs false 4 [(.int .i64 0), (.int .i64 0), (.int .i64 0), (.int .i64 0)] [(0, 4, .loc 0)] 1 [(.agg [(.int .i64 e38), (.int .i64 p9), (.int .i64 r19), (.int .i64 e32)])] [(.int .i64 e38), (.int .i64 p9), (.int .i64 r19), (.int .i64 e32)] b47 H48 H45 (by kernel_rfl) (fill_c (vs := [(.int .i64 e38), (.int .i64 p9), (.int .i64 r19), (.int .i64 e32)]) (size := 4) rfl (by kernel_rfl) (by kernel_rfl) (by kernel_rfl)) hb ?_
        obtain ⟨a49, H50, ha, h⟩ := h
        refine t_app true 4 32 e46 (.slice b47 0 1 (some 1)) a49 H50 H48 (by kernel_rfl) ha ?_
        refine t_ptr true wb0 wo1 H50 (by kernel_rfl) ?_
        refine t_op true (.fieldAddr 26 (.loc 0)) [.ptr wb0 wo1] H50 (.ptr wb0 (wo1 + 26)) H50 (by kernel_rfl) rfl ?_
        obtain ⟨H51, hp, h⟩ := h
        refine t_store true 1 wb0 (wo1 + 26) a49 H51 H50 (by kernel_rfl) hp ?_
        refine t_done [(.ptr wb0 wo1), (.int .i64 p9), (.bool (decide (p9 ≥ 0))), (.int .i64 r19), (.bool ((r19) == (-2))), (.agg [(.int .i64 e30), (.int .i64 e31), (.int .i64 e32), (.int .i64 e33), e34]), (.bool ((e30) == 1)), d15, (.agg [(.int .i64 e38), (.int .i64 p9), (.int .i64 r19), (.int .i64 e32)])] H51 (by kernel_rfl) ?_
        refine then_norm ?_
        refine w_seq ?_
        refine w_run [0, 0, 1, 1, 1, 1, 0, 1, 1, 1, 1] ?_
        refine t_ptr true wb0 wo1 H51 (by kernel_rfl) ?_
        refine t_op true (.fieldAddr 10 (.loc 0)) [.ptr wb0 wo1] H51 (.ptr wb0 (wo1 + 10)) H51 (by kernel_rfl) rfl ?_
        obtain ⟨hi, h⟩ := h
        refine t_arr true 5 1 wb0 (wo1 + 10) .i64 p9 H51 (by kernel_rfl) hi ?_
        obtain ⟨e52, hl, h⟩ := h
        refine t_load true none wb0 ((wo1 + 10) + Int.toNat p9 * 1) (.int .i64 e52) H51 (by kernel_rfl) hl ?_
        refine t_ptr false wb0 wo1 H51 (by kernel_rfl) ?_
        refine t_op false (.fieldAddr 10 (.loc 0)) [.ptr wb0 wo1] H51 (.ptr wb0 (wo1 + 10)) H51 (by kernel_rfl) rfl ?_
        obtain ⟨hi, h⟩ := h
        refine t_arr true 5 1 wb0 (wo1 + 10) .i64 p9 H51 (by kernel_rfl) hi ?_
        obtain ⟨H53, hp, h⟩ := h
        refine t_store true 1 wb0 ((wo1 + 10) + Int.toNat p9 * 1) (.int .i64 (IntKind.wrap .i64 (e52 + 1))) H53 H51 (by kernel_rfl) hp ?_
        refine t_done [(.ptr wb0 wo1), (.int .i64 p9), (.bool (decide (p9 ≥ 0))), (.int .i64 r19), (.bool ((r19) == (-2))), (.agg [(.int .i64 e30), (.int .i64 e31), (.int .i64 e32), (.int .i64 e33), e34]), (.bool ((e30) == 1)), d15, (.agg [(.int .i64 e38), (.int .i64 p9), (.int .i64 r19), (.int .i64 e32)])] H53 (by kernel_rfl) ?_
        refine then_norm ?_
        refine w_run [0, 0, 0, 1, 1, 1, 0, 1, 1, 1, 1] ?_
        refine t_ptr true wb0 wo1 H53 (by kernel_rfl) ?_
        refine t_op true (.fieldAddr 25 (.loc 0)) [.ptr wb0 wo1] H53 (.ptr wb0 (wo1 + 25)) H53 (by kernel_rfl) rfl ?_
        obtain ⟨e54, hl, h⟩ := h
        refine t_load true none wb0 (wo1 + 25) (.int .i64 e54) H53 (by kernel_rfl) hl ?_
        refine t_ptr false wb0 wo1 H53 (by kernel_rfl) ?_
        refine t_op false (.fieldAddr 15 (.loc 0)) [.ptr wb0 wo1] H53 (.ptr wb0 (wo1 + 15)) H53 (by kernel_rfl) rfl ?_
        obtain ⟨hi, h⟩ := h
        refine t_arr true 5 1 wb0 (wo1 + 15) .i64 p9 H53 (by kernel_rfl) hi ?_
        obtain ⟨H55, hp, h⟩ := h
        refine t_store true 1 wb0 ((wo1 + 15) + Int.toNat p9 * 1) (.int .i64 (IntKind.wrap .i64 (e54 + 1))) H55 H53 (by kernel_rfl) hp ?_
        refine t_done [(.ptr wb0 wo1), (.int .i64 p9), (.bool (decide (p9 ≥ 0))), (.int .i64 r19), (.bool ((r19) == (-2))), (.agg [(.int .i64 e30), (.int .i64 e31), (.int .i64 e32), (.int .i64 e33), e34]), (.bool ((e30) == 1)), d15, (.agg [(.int .i64 e38), (.int .i64 p9), (.int .i64 r19), (.int .i64 e32)])] H55 (by kernel_rfl) ?_
        refine block_norm ?_
        refine then_norm ?_
        refine w_run [0, 1, 0] ?_
        refine t_call true nFWorld_pick [(.ptr wb0 wo1)] H55 (by kernel_rfl) h ?_
        clear h
        rintro _ H57 ⟨r56, rfl, h⟩
        refine t_done [(.ptr wb0 wo1), (.int .i64 r56), (.bool (decide (p9 ≥ 0))), (.int .i64 r19), (.bool ((r19) == (-2))), (.agg [(.int .i64 e30), (.int .i64 e31), (.int .i64 e32), (.int .i64 e33), e34]), (.bool ((e30) == 1)), d15, (.agg [(.int .i64 e38), (.int .i64 p9), (.int .i64 r19), (.int .i64 e32)])] H57 (by kernel_rfl) ?_
        obtain ⟨m', hm, h⟩ := h
        refine loop_norm ⟨m', hm, _, _, _, _, _, _, _, _, rfl, h⟩
      · replace h := h.2 (is_eq.f hc)
        refine w_seq ?_
        refine w_run [0, 0] ?_
        refine t_done [(.ptr wb0 wo1), (.int .i64 p9), (.bool (decide (p9 ≥ 0))), (.int .i64 r19), (.bool ((r19) == (-2))), (.agg [(.int .i64 e30), (.int .i64 e31), (.int .i64 e32), (.int .i64 e33), e34]), (.bool ((e30) == 1)), (.bool (decide (r19 ≥ 0))), (.agg [(.int .i64 e38), (.int .i64 p9), (.int .i64 r19), (.int .i64 e32)])] H39 (by kernel_rfl) ?_
        refine then_norm ?_
        refine w_cond (t := (decide (r19 ≥ 0))) rfl (fun hc => ?_) (fun hc => ?_)
        · replace h := h.1 (is_dec.t hc)
          refine w_seq ?_
          refine w_run [0, 0, 1, 1, 1, 1, 0, 0, 1, 1, 1, 1, 1, 1, 0, 1] ?_
          refine t_ptr false wb0 wo1 H39 (by kernel_rfl) ?_
          refine t_op false (.fieldAddr 2 (.loc 0)) [.ptr wb0 wo1] H39 (.ptr wb0 (wo1 + 2)) H39 (by kernel_rfl) rfl ?_
          obtain ⟨hi, h⟩ := h
          refine t_arr false 4 1 wb0 (wo1 + 2) .i64 r19 H39 (by kernel_rfl) hi ?_
          obtain ⟨e60, hl, h⟩ := h
          refine t_load false none wb0 ((wo1 + 2) + Int.toNat r19 * 1) e60 H39 (by kernel_rfl) hl ?_
          refine t_ptr false wb0 wo1 H39 (by kernel_rfl) ?_
          refine t_op false (.fieldAddr 6 (.loc 0)) [.ptr wb0 wo1] H39 (.ptr wb0 (wo1 + 6)) H39 (by kernel_rfl) rfl ?_
          obtain ⟨hi, h⟩ := h
          refine t_arr false 4 1 wb0 (wo1 + 6) .i64 r19 H39 (by kernel_rfl) hi ?_
          obtain ⟨e61, hl, h⟩ := h
          refine t_load false none wb0 ((wo1 + 6) + Int.toNat r19 * 1) (.int .i64 e61) H39 (by kernel_rfl) hl ?_
          obtain ⟨e62, hg63, h⟩ := h
          refine t_idxG true 1 e60 .i64 e61 H39 (by kernel_rfl) hg63 ?_
          refine t_loadG true none 1 e60 e61 0 (.int .i64 e62) H39 (by kernel_rfl) hg63 ?_
          refine t_upd true 1 3 [(.int .i64 e38), (.int .i64 p9), (.int .i64 r19), (.int .i64 e32)] (.int .i64 e62) [(.int .i64 e62)] [(.int .i64 e38), (.int .i64 p9), (.int .i64 r19), (.int .i64 e62)] H39 (by kernel_rfl) rfl (all_c rfl all_n) ⟨rfl, Nat.le_of_ble_eq_true (by kernel_rfl), rfl⟩ ?_
          refine t_done [(.ptr wb0 wo1), (.int .i64 p9), (.bool (decide (p9 ≥ 0))), (.int .i64 r19), (.bool ((r19) == (-2))), (.agg [(.int .i64 e30), (.int .i64 e31), (.int .i64 e32), (.int .i64 e33), e34]), (.bool ((e30) == 1)), (.bool (decide (r19 ≥ 0))), (.agg [(.int .i64 e38), (.int .i64 p9), (.int .i64 r19), (.int .i64 e62)])] H39 (by kernel_rfl) ?_
          refine then_norm ?_
          refine w_run [0, 0, 1, 1, 1, 1, 0, 1, 1, 1, 1] ?_
          refine t_ptr true wb0 wo1 H39 (by kernel_rfl) ?_
          refine t_op true (.fieldAddr 6 (.loc 0)) [.ptr wb0 wo1] H39 (.ptr wb0 (wo1 + 6)) H39 (by kernel_rfl) rfl ?_
          obtain ⟨hi, h⟩ := h
          refine t_arr true 4 1 wb0 (wo1 + 6) .i64 r19 H39 (by kernel_rfl) hi ?_
          obtain ⟨e64, hl, h⟩ := h
          refine t_load true none wb0 ((wo1 + 6) + Int.toNat r19 * 1) (.int .i64 e64) H39 (by kernel_rfl) hl ?_
          refine t_ptr false wb0 wo1 H39 (by kernel_rfl) ?_
          refine t_op false (.fieldAddr 6 (.loc 0)) [.ptr wb0 wo1] H39 (.ptr wb0 (wo1 + 6)) H39 (by kernel_rfl) rfl ?_
          obtain ⟨hi, h⟩ := h
          refine t_arr true 4 1 wb0 (wo1 + 6) .i64 r19 H39 (by kernel_rfl) hi ?_
          obtain ⟨H65, hp, h⟩ := h
          refine t_store true 1 wb0 ((wo1 + 6) + Int.toNat r19 * 1) (.int .i64 (IntKind.wrap .i64 (e64 + 1))) H65 H39 (by kernel_rfl) hp ?_
          refine t_done [(.ptr wb0 wo1), (.int .i64 p9), (.bool (decide (p9 ≥ 0))), (.int .i64 r19), (.bool ((r19) == (-2))), (.agg [(.int .i64 e30), (.int .i64 e31), (.int .i64 e32), (.int .i64 e33), e34]), (.bool ((e30) == 1)), (.bool (decide (r19 ≥ 0))), (.agg [(.int .i64 e38), (.int .i64 p9), (.int .i64 r19), (.int .i64 e62)])] H65 (by kernel_rfl) ?_
          refine then_norm ?_
          refine w_seq ?_
          refine w_run [0, 0, 1, 1, 1, 0, 1, 1, 1, 1, 1] ?_
          refine t_ptr false wb0 wo1 H65 (by kernel_rfl) ?_
          refine t_op false (.fieldAddr 26 (.loc 0)) [.ptr wb0 wo1] H65 (.ptr wb0 (wo1 + 26)) H65 (by kernel_rfl) rfl ?_
          obtain ⟨e66, hl, h⟩ := h
          refine t_load false none wb0 (wo1 + 26) e66 H65 (by kernel_rfl) hl ?_
          obtain ⟨b67, H68, hb⟩ : ∃ b H', NewB H65 4 [(.int .i64 e38), (.int .i64 p9), (.int .i64 r19), (.int .i64 e62)] b H' := ⟨_, _, rfl, rfl⟩
          replace h := h b67 H68 hb
          refine t_bs false 4 [(.int .i64 0), (.int .i64 0), (.int .i64 0), (.int .i64 0)] [(0, 4, .loc 0)] 1 [(.agg [(.int .i64 e38), (.int .i64 p9), (.int .i64 r19), (.int .i64 e62)])] [(.int .i64 e38), (.int .i64 p9), (.int .i64 r19), (.int .i64 e62)] b67 H68 H65 (by kernel_rfl) (fill_c (vs := [(.int .i64 e38), (.int .i64 p9), (.int .i64 r19), (.int .i64 e62)]) (size := 4) rfl (by kernel_rfl) (by kernel_rfl) (by kernel_rfl)) hb ?_
          obtain ⟨a69, H70, ha, h⟩ := h
          refine t_app true 4 32 e66 (.slice b67 0 1 (some 1)) a69 H70 H68 (by kernel_rfl) ha ?_
          refine t_ptr true wb0 wo1 H70 (by kernel_rfl) ?_
          refine t_op true (.fieldAddr 26 (.loc 0)) [.ptr wb0 wo1] H70 (.ptr wb0 (wo1 + 26)) H70 (by kernel_rfl) rfl ?_
          obtain ⟨H71, hp, h⟩ := h
          refine t_store true 1 wb0 (wo1 + 26) a69 H71 H70 (by kernel_rfl) hp ?_
          refine t_done [(.ptr wb0 wo1), (.int .i64 p9), (.bool (decide (p9 ≥ 0))), (.int .i64 r19), (.bool ((r19) == (-2))), (.agg [(.int .i64 e30), (.int .i64 e31), (.int .i64 e32), (.int .i64 e33), e34]), (.bool ((e30) == 1)), (.bool (decide (r19 ≥ 0))), (.agg [(.int .i64 e38), (.int .i64 p9), (.int .i64 r19), (.int .i64 e62)])] H71 (by kernel_rfl) ?_
          refine then_norm ?_
          refine w_seq ?_
          refine w_run [0, 0, 1, 1, 1, 1, 0, 1, 1, 1, 1] ?_
          refine t_ptr true wb0 wo1 H71 (by kernel_rfl) ?_
          refine t_op true (.fieldAddr 10 (.loc 0)) [.ptr wb0 wo1] H71 (.ptr wb0 (wo1 + 10)) H71 (by kernel_rfl) rfl ?_
          obtain ⟨hi, h⟩ := h
          refine t_arr true 5 1 wb0 (wo1 + 10) .i64 p9 H71 (by kernel_rfl) hi ?_
          obtain ⟨e72, hl, h⟩ := h
          refine t_load true none wb0 ((wo1 + 10) + Int.toNat p9 * 1) (.int .i64 e72) H71 (by kernel_rfl) hl ?_
          refine t_ptr false wb0 wo1 H71 (by kernel_rfl) ?_
          refine t_op false (.fieldAddr 10 (.loc 0)) [.ptr wb0 wo1] H71 (.ptr wb0 (wo1 + 10)) H71 (by kernel_rfl) rfl ?_
          obtain ⟨hi, h⟩ := h
          refine t_arr true 5 1 wb0 (wo1 + 10) .i64 p9 H71 (by kernel_rfl) hi ?_
          obtain ⟨H73, hp, h⟩ := h
          refine t_store true 1 wb0 ((wo1 + 10) + Int.toNat p9 * 1) (.int .i64 (IntKind.wrap .i64 (e72 + 1))) H73 H71 (by kernel_rfl) hp ?_
          refine t_done [(.ptr wb0 wo1), (.int .i64 p9), (.bool (decide (p9 ≥ 0))), (.int .i64 r19), (.bool ((r19) == (-2))), (.agg [(.int .i64 e30), (.int .i64 e31), (.int .i64 e32), (.int .i64 e33), e34]), (.bool ((e30) == 1)), (.bool (decide (r19 ≥ 0))), (.agg [(.int .i64 e38), (.int .i64 p9), (.int .i64 r19), (.int .i64 e62)])] H73 (by kernel_rfl) ?_
          refine then_norm ?_
          refine w_run [0, 0, 0, 1, 1, 1, 0, 1, 1, 1, 1] ?_
          refine t_ptr true wb0 wo1 H73 (by kernel_rfl) ?_
          refine t_op true (.fieldAddr 25 (.loc 0)) [.ptr wb0 wo1] H73 (.ptr wb0 (wo1 + 25)) H73 (by kernel_rfl) rfl ?_
          obtain ⟨e74, hl, h⟩ := h
          refine t_load true none wb0 (wo1 + 25) (.int .i64 e74) H73 (by kernel_rfl) hl ?_
          refine t_ptr false wb0 wo1 H73 (by kernel_rfl) ?_
          refine t_op false (.fieldAddr 15 (.loc 0)) [.ptr wb0 wo1] H73 (.ptr wb0 (wo1 + 15)) H73 (by kernel_rfl) rfl ?_
          obtain ⟨hi, h⟩ := h
          refine t_arr true 5 1 wb0 (wo1 + 15) .i64 p9 H73 (by kernel_rfl) hi ?_
          obtain ⟨H75, hp, h⟩ := h
          refine t_store true 1 wb0 ((wo1 + 15) + Int.toNat p9 * 1) (.int .i64 (IntKind.wrap .i64 (e74 + 1))) H75 H73 (by kernel_rfl) hp ?_
          refine t_done [(.ptr wb0 wo1), (.int .i64 p9), (.bool (decide (p9 ≥ 0))), (.int .i64 r19), (.bool ((r19) == (-2))), (.agg [(.int .i64 e30), (.int .i64 e31), (.int .i64 e32), (.int .i64 e33), e34]), (.bool ((e30) == 1)), (.bool (decide (r19 ≥ 0))), (.agg [(.int .i64 e38), (.int .i64 p9), (.int .i64 r19), (.int .i64 e62)])] H75 (by kernel_rfl) ?_
          refine block_norm ?_
          refine then_norm ?_
          refine w_run [0, 1, 0] ?_
          refine t_call true nFWorld_pick [(.ptr wb0 wo1)] H75 (by kernel_rfl) h ?_
          clear h
          rintro _ H77 ⟨r76, rfl, h⟩
          refine t_done [(.ptr wb0 wo1), (.int .i64 r76), (.bool (decide (p9 ≥ 0))), (.int .i64 r19), (.bool ((r19) == (-2))), (.agg [(.int .i64 e30), (.int .i64 e31), (.int .i64 e32), (.int .i64 e33), e34]), (.bool ((e30) == 1)), (.bool (decide (r19 ≥ 0))), (.agg [(.int .i64 e38), (.int .i64 p9), (.int .i64 r19), (.int .i64 e62)])] H77 (by kernel_rfl) ?_
          obtain ⟨m', hm, h⟩ := h
          refine loop_norm ⟨m', hm, _, _, _, _, _, _, _, _, rfl, h⟩
        · replace h := h.2 (is_dec.f hc)
          refine w_skip ?_
          refine then_norm ?_
          refine w_seq ?_
          refine w_run [0, 0, 1, 1, 1, 0, 1, 1, 1, 1, 1] ?_
          refine t_ptr false wb0 wo1 H39 (by kernel_rfl) ?_
          refine t_op false (.fieldAddr 26 (.loc 0)) [.ptr wb0 wo1] H39 (.ptr wb0 (wo1 + 26)) H39 (by kernel_rfl) rfl ?_
          obtain ⟨e80, hl, h⟩ := h
          refine t_load false none wb0 (wo1 + 26) e80 H39 (by kernel_rfl) hl ?_
          obtain ⟨b81, H82, hb⟩ : ∃ b H', NewB H39 4 [(.int .i64 e38), (.int .i64 p9), (.int .i64 r19), (.int .i64 e32)] b H' := ⟨_, _, rfl, rfl⟩
          replace h := h b81 H82 hb
          refine t_bs false 4 [(.int .i64 0), (.int .i64 0), (.int .i64 0), (.int .i64 0)] [(0, 4, .loc 0)] 1 [(.agg [(.int .i64 e38), (.int .i64 p9), (.int .i64 r19), (.int .i64 e32)])] [(.int .i64 e38), (.int .i64 p9), (.int .i64 r19), (.int .i64 e32)] b81 H82 H39 (by kernel_rfl) (fill_c (vs := [(.int .i64 e38), (.int .i64 p9), (.int .i64 r19), (.int .i64 e32)]) (size := 4) rfl (by kernel_rfl) (by kernel_rfl) (by kernel_rfl)) hb ?_
          obtain ⟨a83, H84, ha, h⟩ := h
          refine t_app true 4 32 e80 (.slice b81 0 1 (some 1)) a83 H84 H82 (by kernel_rfl) ha ?_
          refine t_ptr true wb0 wo1 H84 (by kernel_rfl) ?_
          refine t_op true (.fieldAddr 26 (.loc 0)) [.ptr wb0 wo1] H84 (.ptr wb0 (wo1 + 26)) H84 (by kernel_rfl) rfl ?_
          obtain ⟨H85, hp, h⟩ := h
          refine t_store true 1 wb0 (wo1 + 26) a83 H85 H84 (by kernel_rfl) hp ?_
          refine t_done [(.ptr wb0 wo1), (.int .i64 p9), (.bool (decide (p9 ≥ 0))), (.int .i64 r19), (.bool ((r19) == (-2))), (.agg [(.int .i64 e30), (.int .i64 e31), (.int .i64 e32), (.int .i64 e33), e34]), (.bool ((e30) == 1)), (.bool (decide (r19 ≥ 0))), (.agg [(.int .i64 e38), (.int .i64 p9), (.int .i64 r19), (.int .i64 e32)])] H85 (by kernel_rfl) ?_
          refine then_norm ?_
          refine w_seq ?_
          refine w_run [0, 0, 1, 1, 1, 1, 0, 1, 1, 1, 1] ?_
          refine t_ptr true wb0 wo1 H85 (by kernel_rfl) ?_
          refine t_op true (.fieldAddr 10 (.loc 0)) [.ptr wb0 wo1] H85 (.ptr wb0 (wo1 + 10)) H85 (by kernel_rfl) rfl ?_
          obtain ⟨hi, h⟩ := h
          refine t_arr true 5 1 wb0 (wo1 + 10) .i64 p9 H85 (by kernel_rfl) hi ?_
          obtain ⟨e86, hl, h⟩ := h
          refine t_load true none wb0 ((wo1 + 10) + Int.toNat p9 * 1) (.int .i64 e86) H85 (by kernel_rfl) hl ?_
          refine t_ptr false wb0 wo1 H85 (by kernel_rfl) ?_
          refine t_op false (.fieldAddr 10 (.loc 0)) [.ptr wb0 wo1] H85 (.ptr wb0 (wo1 + 10)) H85 (by kernel_rfl) rfl ?_
          obtain ⟨hi, h⟩ := h
          refine t_arr true 5 1 wb0 (wo1 + 10) .i64 p9 H85 (by kernel_rfl) hi ?_
          obtain ⟨H87, hp, h⟩ := h
          refine t_store true 1 wb0 ((wo1 + 10) + Int.toNat p9 * 1) (.int .i64 (IntKind.wrap .i64 (e86 + 1))) H87 H85 (by kernel_rfl) hp ?_
          refine t_done [(.ptr wb0 wo1), (.int .i64 p9), (.bool (decide (p9 ≥ 0))), (.int .i64 r19), (.bool ((r19) == (-2))), (.agg [(.int .i64 e30), (.int .i64 e31), (.int .i64 e32), (.int .i64 e33), e34]), (.bool ((e30) == 1)), (.bool (decide (r19 ≥ 0))), (.agg [(.int .i64 e38), (.int .i64 p9), (.int .i64 r19), (.int .i64 e32)])] H87 (by kernel_rfl) ?_
          refine then_norm ?_
          refine w_run [0, 0, 0, 1, 1, 1, 0, 1, 1, 1, 1] ?_
          refine t_ptr true wb0 wo1 H87 (by kernel_rfl) ?_
          refine t_op true (.fieldAddr 25 (.loc 0)) [.ptr wb0 wo1] H87 (.ptr wb0 (wo1 + 25)) H87 (by kernel_rfl) rfl ?_
          obtain ⟨e88, hl, h⟩ := h
          refine t_load true none wb0 (wo1 + 25) (.int .i64 e88) H87 (by kernel_rfl) hl ?_
          refine t_ptr false wb0 wo1 H87 (by kernel_rfl) ?_
          refine t_op false (.fieldAddr 15 (.loc 0)) [.ptr wb0 wo1] H87 (.ptr wb0 (wo1 + 15)) H87 (by kernel_rfl) rfl ?_
          obtain ⟨hi, h⟩ := h
          refine t_arr true 5 1 wb0 (wo1 + 15) .i64 p9 H87 (by kernel_rfl) hi ?_
          obtain ⟨H89, hp, h⟩ := h
          refine t_store true 1 wb0 ((wo1 + 15) + Int.toNat p9 * 1) (.int .i64 (IntKind.wrap .i64 (e88 + 1))) H89 H87 (by kernel_rfl) hp ?_
          refine t_done [(.ptr wb0 wo1), (.int .i64 p9), (.bool (decide (p9 ≥ 0))), (.int .i64 r19), (.bool ((r19) == (-2))), (.agg [(.int .i64 e30), (.int .i64 e31), (.int .i64 e32), (.int .i64 e33), e34]), (.bool ((e30) == 1)), (.bool (decide (r19 ≥ 0))), (.agg [(.int .i64 e38), (.int .i64 p9), (.int .i64 r19), (.int .i64 e32)])] H89 (by kernel_rfl) ?_
          refine block_norm ?_
          refine then_norm ?_
          refine w_run [0, 1, 0] ?_
          refine t_call true nFWorld_pick [(.ptr wb0 wo1)] H89 (by kernel_rfl) h ?_
          clear h
          rintro _ H91 ⟨r90, rfl, h⟩
          refine t_done [(.ptr wb0 wo1), (.int .i64 r90), (.bool (decide (p9 ≥ 0))), (.int .i64 r19), (.bool ((r19) == (-2))), (.agg [(.int .i64 e30), (.int .i64 e31), (.int .i64 e32), (.int .i64 e33), e34]), (.bool ((e30) == 1)), (.bool (decide (r19 ≥ 0))), (.agg [(.int .i64 e38), (.int .i64 p9), (.int .i64 r19), (.int .i64 e32)])] H91 (by kernel_rfl) ?_
          obtain ⟨m', hm, h⟩ := h
          refine loop_norm ⟨m', hm, _, _, _, _, _, _, _, _, rfl, h⟩
  · replace h := h.2 (is_dec.f hc)
    refine w_exit ?_
    refine then_exit ?_
    refine loop_exit ?_
    refine block_exit ?_
    refine then_norm ?_
    refine w_run [0, 1, 1, 1, 0, 1, 1, 1] ?_
    refine t_ptr true wb0 wo1 H17 (by kernel_rfl) ?_
    refine t_op true (.fieldAddr 25 (.loc 0)) [.ptr wb0 wo1] H17 (.ptr wb0 (wo1 + 25)) H17 (by kernel_rfl) rfl ?_
    obtain ⟨e94, hl, h⟩ := h
    refine t_load true none wb0 (wo1 + 25) (.int .i64 e94) H17 (by kernel_rfl) hl ?_
    refine t_ptr true wb0 wo1 H17 (by kernel_rfl) ?_
    refine t_op true (.fieldAddr 25 (.loc 0)) [.ptr wb0 wo1] H17 (.ptr wb0 (wo1 + 25)) H17 (by kernel_rfl) rfl ?_
    obtain ⟨H95, hp, h⟩ := h
    refine t_store true 1 wb0 (wo1 + 25) (.int .i64 (IntKind.wrap .i64 (e94 + 1))) H95 H17 (by kernel_rfl) hp ?_
    refine t_done [(.ptr wb0 wo1), (.int .i64 p9), (.bool (decide (p9 ≥ 0))), d11, d12, d13, d14, d15, d16] H95 (by kernel_rfl) ?_
    exact body_norm (vs := []) _ (by kernel_rfl) rfl h

def rf_FWorld_pick : RFunc := ⟨1, 6, [.var 1],
 ((.seq (.ops [⟨.move (.k (.int .i64 0)), none, (some 1), true⟩])
 ((.seq (.ops [⟨.move (.k (.int .i64 (-1))), none, (some 4), true⟩])
 ((.seq ((.seq (.ops [⟨.move (.k (.int .i64 0)), none, (some 2), true⟩])
 (.block 0 (.loop ((.seq ((.seq (.ops [⟨.move (.var 2), none, none, true⟩, ⟨.move (.var 0), none, none, true⟩, ⟨.nilCheck (.loc 1), none, none, true⟩, ⟨.fieldAddr 1 (.loc 2), none, none, true⟩, ⟨.load none (.loc 3), none, none, true⟩, ⟨.len (.loc 4), none, none, true⟩, ⟨.bin .lss .no (.loc 0) (.loc 5), none, (some 3), true⟩])
 (.cond (.var 3) (.skip) (.exit 0))))
 ((.seq (.block 1 ((.seq (.ops [⟨.move (.var 0), none, none, true⟩, ⟨.move (.var 2), none, none, true⟩, ⟨.nilCheck (.loc 0), none, none, true⟩, ⟨.fieldAddr 20 (.loc 2), none, none, true⟩, ⟨.indexArr 5 1 (.loc 3) (.loc 1), none, none, true⟩, ⟨.load none (.loc 4), none, none, true⟩, ⟨.un .not (.loc 5), none, none, true⟩, ⟨.move (.loc 6), none, none, true⟩, ⟨.move (.var 0), (some (7, true)), none, false⟩, ⟨.move (.var 2), (some (7, true)), none, false⟩, ⟨.nilCheck (.loc 8), (some (7, true)), none, false⟩, ⟨.fieldAddr 10 (.loc 10), (some (7, true)), none, false⟩, ⟨.indexArr 5 1 (.loc 11) (.loc 9), (some (7, true)), none, false⟩, ⟨.load none (.loc 12), (some (7, true)), none, false⟩, ⟨.move (.var 0), (some (7, true)), none, false⟩, ⟨.nilCheck (.loc 14), (some (7, true)), none, false⟩, ⟨.fieldAddr 1 (.loc 15), (some (7, true)), none, false⟩, ⟨.load none (.loc 16), (some (7, true)), none, false⟩, ⟨.move (.var 2), (some (7, true)), none, false⟩, ⟨.indexAddr 1 (.loc 17) (.loc 18), (some (7, true)), none, false⟩, ⟨.load none (.loc 19), (some (7, true)), none, false⟩, ⟨.len (.loc 20), (some (7, true)), none, false⟩, ⟨.bin .lss .no (.loc 13) (.loc 21), (some (7, true)), none, true⟩, ⟨.pick (.loc 7) (.loc 22) (.k (.bool false)), none, none, true⟩, ⟨.move (.loc 23), none, none, true⟩, ⟨.move (.var 4), (some (24, true)), none, true⟩, ⟨.bin .lss .no (.loc 25) (.k (.int .i64 0)), (some (24, true)), none, true⟩, ⟨.move (.loc 26), (some (24, true)), none, true⟩, ⟨.move (.var 0), (some (27, false)), none, false⟩, ⟨.move (.var 2), (some (27, false)), none, false⟩, ⟨.nilCheck (.loc 28), (some (27, false)), none, false⟩, ⟨.fieldAddr 15 (.loc 30), (some (27, false)), none, false⟩, ⟨.indexArr 5 1 (.loc 31) (.loc 29), (some (27, false)), none, false⟩, ⟨.load none (.loc 32), (some (27, false)), none, false⟩, ⟨.move (.var 0), (some (27, false)), none, false⟩, ⟨.move (.var 4), (some (27, false)), none, false⟩, ⟨.nilCheck (.loc 34), (some (27, false)), none, false⟩, ⟨.fieldAddr 15 (.loc 36), (some (27, false)), none, false⟩, ⟨.indexArr 5 1 (.loc 37) (.loc 35), (some (27, false)), none, false⟩, ⟨.load none (.loc 38), (some (27, false)), none, false⟩, ⟨.bin .lss .no (.loc 33) (.loc 39), (some (27, false)), none, true⟩, ⟨.pick (.loc 27) (.k (.bool true)) (.loc 40), (some (24, true)), none, true⟩, ⟨.pick (.loc 24) (.loc 41) (.k (.bool false)), none, (some 5), true⟩])
 (.cond (.var 5) (.ops [⟨.move (.var 2), none, none, true⟩, ⟨.move (.loc 0), none, (some 4), true⟩]) (.skip)))))
 (.ops [⟨.move (.var 2), none, none, true⟩, ⟨.bin .add .no (.loc 0) (.k (.int .i64 1)), none, none, true⟩, ⟨.move (.loc 1), none, (some 2), true⟩])))))))))
 ((.seq (.ops [⟨.move (.var 4), none, none, true⟩, ⟨.move (.loc 0), none, (some 1), true⟩])
 (.ret))))))))), none⟩
theorem v_FWorld_pick {F : Nat → Option RFunc} {me : Nat} (hF : F me = some (rf_FWorld_pick )) {fl : Nat} {H : Heap} {Q : AV → Heap → Prop} (wb0 : Nat) (wo1 : Nat)
  (h : ∃ (J2 : Nat → Int → Int → Prop) (k3 : Nat), J2 k3 0 (-1) ∧ (∀ (m4 : Nat) (p5 : Int) (best7 : Int), J2 m4 p5 best7 → ∃ (e9 : AV), rload H none wb0 (wo1 + 1) = some e9 ∧ ∃ len10 : Nat, lenA e9 = some len10 ∧ ((p5 < (len10 : Int)) → (0 ≤ p5 ∧ p5 < ((5 : Nat) : Int)) ∧ ∃ (e11 : Bool), rload H none wb0 ((wo1 + 20) + Int.toNat p5 * 1) = some (.bool e11) ∧ ((¬(e11 = true)) → (0 ≤ p5 ∧ p5 < ((5 : Nat) : Int)) ∧ ∃ (e12 : Int), rload H none wb0 ((wo1 + 10) + Int.toNat p5 * 1) = some (.int .i64 e12) ∧ ∃ (e13 : AV), rload H none wb0 (wo1 + 1) = some e13 ∧ ∃ (e14 : AV), getA H 1 none e13 p5 0 = some e14 ∧ ∃ len16 : Nat, lenA e14 = some len16 ∧ ((e12 < (len16 : Int)) → ((best7 < 0) → ∃ m21 : Nat, m21 < m4 ∧ J2 m21 (IntKind.wrap .i64 (p5 + 1)) p5) ∧ (¬(best7 < 0) → (0 ≤ p5 ∧ p5 < ((5 : Nat) : Int)) ∧ ∃ (e17 : Int), rload H none wb0 ((wo1 + 15) + Int.toNat p5 * 1) = some (.int .i64 e17) ∧ (0 ≤ best7 ∧ best7 < ((5 : Nat) : Int)) ∧ ∃ (e18 : Int), rload H none wb0 ((wo1 + 15) + Int.toNat best7 * 1) = some (.int .i64 e18) ∧ ((e17 < e18) → ∃ m19 : Nat, m19 < m4 ∧ J2 m19 (IntKind.wrap .i64 (p5 + 1)) p5) ∧ (¬(e17 < e18) → ∃ m20 : Nat, m20 < m4 ∧ J2 m20 (IntKind.wrap .i64 (p5 + 1)) best7))) ∧ (¬(e12 < (len16 : Int)) → ∃ m22 : Nat, m22 < m4 ∧ J2 m22 (IntKind.wrap .i64 (p5 + 1)) best7)) ∧ (¬(¬(e11 = true)) → ∃ m23 : Nat, m23 < m4 ∧ J2 m23 (IntKind.wrap .i64 (p5 + 1)) best7)) ∧ (¬(p5 < (len10 : Int)) → Q (.int .i64 best7) H))) : Ret F fl me [(.ptr wb0 wo1)] H Q := by
  refine ret_intro hF rfl ?_
  refine w_seq ?_
  refine w_run [0] ?_
  refine t_done [(.ptr wb0 wo1), (.int .i64 0), .undef, .undef, .undef, .undef] H (by kernel_rfl) ?_
  refine then_norm ?_
  refine w_seq ?_
  refine w_run [0] ?_
  refine t_done [(.ptr wb0 wo1), (.int .i64 0), .undef, .undef, (.int .i64 (-1)), .undef] H (by kernel_rfl) ?_
  refine then_norm ?_
  refine w_seq ?_
  refine w_seq ?_
  refine w_run [0] ?_
  refine t_done [(.ptr wb0 wo1), (.int .i64 0), (.int .i64 0), .undef, (.int .i64 (-1)), .undef] H (by kernel_rfl) ?_
  refine then_norm ?_
  refine w_block ?_
  obtain ⟨J2, k3, h0, h⟩ := h
  refine w_loop (I := fun mI EI HI => ∃ (p5 : Int) (d6 : AV) (best7 : Int) (d8 : AV), EI = [(.ptr wb0 wo1), (.int .i64 0), (.int .i64 p5), d6, (.int .i64 best7), d8] ∧ H = HI ∧ J2 mI p5 best7) ?_ k3 ⟨_, _, _, _, rfl, rfl, h0⟩
  clear h0
  rintro m4 EI HI ⟨p5, d6, best7, d8, rfl, rfl, hJ⟩
  replace h := h m4 p5 best7  hJ
  clear hJ
  refine w_seq ?_
  refine w_seq ?_
  refine w_run [0, 0, 1, 1, 1, 1, 0] ?_
  refine t_ptr true wb0 wo1 H (by kernel_rfl) ?_
  refine t_op true (.fieldAddr 1 (.loc 0)) [.ptr wb0 wo1] H (.ptr wb0 (wo1 + 1)) H (by kernel_rfl) rfl ?_
  obtain ⟨e9, hl, h⟩ := h
  refine t_load true none wb0 (wo1 + 1) e9 H (by kernel_rfl) hl ?_
  obtain ⟨len10, hl, h⟩ := h
  refine t_len true e9 len10 H (by kernel_rfl) hl ?_
  refine t_done [(.ptr wb0 wo1), (.int .i64 0), (.int .i64 p5), (.bool (decide (p5 < (len10 : Int)))), (.int .i64 best7), d8] H (by kernel_rfl) ?_
  refine then_norm ?_
  refine w_cond (t := (decide (p5 < (len10 : Int)))) rfl (fun hc => ?_) (fun hc => ?_)
  · replace h := h.1 (is_dec.t hc)
    refine w_skip ?_
    refine then_norm ?_
    refine w_seq ?_
    refine w_block ?_
    refine w_seq ?_
    refine w_run [0, 0, 1, 1, 1, 1, 0, 0, 2, 2, 3, 3, 3, 3, 2, 3, 3, 3, 2, 3, 3, 3, 2, 0, 0, 2, 2, 2, 2, 2, 3, 3, 3, 3, 2, 2, 3, 3, 3, 3, 2, 2, 0] ?_
    refine t_ptr true wb0 wo1 H (by kernel_rfl) ?_
    refine t_op true (.fieldAddr 20 (.loc 0)) [.ptr wb0 wo1] H (.ptr wb0 (wo1 + 20)) H (by kernel_rfl) rfl ?_
    obtain ⟨hi, h⟩ := h
    refine t_arr true 5 1 wb0 (wo1 + 20) .i64 p5 H (by kernel_rfl) hi ?_
    obtain ⟨e11, hl, h⟩ := h
    refine t_load true none wb0 ((wo1 + 20) + Int.toNat p5 * 1) (.bool e11) H (by kernel_rfl) hl ?_
    refine t_gd (!e11) true (by kernel_rfl) (fun hc => ?_) (fun hc => ?_)
    · replace h := h.1 ((is_not is_raw).t hc)
      refine t_gd true true (by kernel_rfl) (fun _ => ?_) (fun hn => by cases hn)
      refine t_gd true true (by kernel_rfl) (fun _ => ?_) (fun hn => by cases hn)
      refine t_ptr false wb0 wo1 H (by kernel_rfl) ?_
      refine t_gd true true (by kernel_rfl) (fun _ => ?_) (fun hn => by cases hn)
      refine t_op false (.fieldAddr 10 (.loc 0)) [.ptr wb0 wo1] H (.ptr wb0 (wo1 + 10)) H (by kernel_rfl) rfl ?_
      refine t_gd true true (by kernel_rfl) (fun _ => ?_) (fun hn => by cases hn)
      obtain ⟨hi, h⟩ := h
      refine t_arr false 5 1 wb0 (wo1 + 10) .i64 p5 H (by kernel_rfl) hi ?_
      refine t_gd true true (by kernel_rfl) (fun _ => ?_) (fun hn => by cases hn)
      obtain ⟨e12, hl, h⟩ := h
      refine t_load false none wb0 ((wo1 + 10) + Int.toNat p5 * 1) (.int .i64 e12) H (by kernel_rfl) hl ?_
      refine t_gd true true (by kernel_rfl) (fun _ => ?_) (fun hn => by cases hn)
      refine t_gd true true (by kernel_rfl) (fun _ => ?_) (fun hn => by cases hn)
      refine t_ptr false wb0 wo1 H (by kernel_rfl) ?_
      refine t_gd true true (by kernel_rfl) (fun _ => ?_) (fun hn => by cases hn)
      refine t_op false (.fieldAddr 1 (.loc 0)) [.ptr wb0 wo1] H (.ptr wb0 (wo1 + 1)) H (by kernel_rfl) rfl ?_
      refine t_gd true true (by kernel_rfl) (fun _ => ?_) (fun hn => by cases hn)
      obtain ⟨e13, hl, h⟩ := h
      refine t_load false none wb0 (wo1 + 1) e13 H (by kernel_rfl) hl ?_
      refine t_gd true true (by kernel_rfl) (fun _ => ?_) (fun hn => by cases hn)
      refine t_gd true true (by kernel_rfl) (fun _ => ?_) (fun hn => by cases hn)
      obtain ⟨e14, hg15, h⟩ := h
      refine t_idxG false 1 e13 .i64 p5 H (by kernel_rfl) hg15 ?_
      refine t_gd true true (by kernel_rfl) (fun _ => ?_) (fun hn => by cases hn)
      refine t_loadG false none 1 e13 p5 0 e14 H (by kernel_rfl) hg15 ?_
      refine t_gd true true (by kernel_rfl) (fun _ => ?_) (fun hn => by cases hn)
      obtain ⟨len16, hl, h⟩ := h
      refine t_len false e14 len16 H (by kernel_rfl) hl ?_
      refine t_gd true true (by kernel_rfl) (fun _ => ?_) (fun hn => by cases hn)
      refine t_gd (decide (e12 < (len16 : Int))) true (by kernel_rfl) (fun hc => ?_) (fun hc => ?_)
      · replace h := h.1 (is_dec.t hc)
        refine t_gd true true (by kernel_rfl) (fun _ => ?_) (fun hn => by cases hn)
        refine t_gd true true (by kernel_rfl) (fun _ => ?_) (fun hn => by cases hn)
        refine t_gd (decide (best7 < 0)) false (by kernel_rfl) (fun hc => ?_) (fun hc => ?_)
        · replace h := h.2 (is_dec.f hc)
          refine t_gd false false (by kernel_rfl) (fun _ => ?_) (fun hn => by cases hn)
          refine t_gd false false (by kernel_rfl) (fun _ => ?_) (fun hn => by cases hn)
          refine t_ptr false wb0 wo1 H (by kernel_rfl) ?_
          refine t_gd false false (by kernel_rfl) (fun _ => ?_) (fun hn => by cases hn)
          refine t_op false (.fieldAddr 15 (.loc 0)) [.ptr wb0 wo1] H (.ptr wb0 (wo1 + 15)) H (by kernel_rfl) rfl ?_
          refine t_gd false false (by kernel_rfl) (fun _ => ?_) (fun hn => by cases hn)
          obtain ⟨hi, h⟩ := h
          refine t_arr false 5 1 wb0 (wo1 + 15) .i64 p5 H (by kernel_rfl) hi ?_
          refine t_gd false false (by kernel_rfl) (fun _ => ?_) (fun hn => by cases hn)
          obtain ⟨e17, hl, h⟩ := h
          refine t_load false none wb0 ((wo1 + 15) + Int.toNat p5 * 1) (.int .i64 e17) H (by kernel_rfl) hl ?_
          refine t_gd false false (by kernel_rfl) (fun _ => ?_) (fun hn => by cases hn)
          refine t_gd false false (by kernel_rfl) (fun _ => ?_) (fun hn => by cases hn)
          refine t_gd false false (by kernel_rfl) (fun _ => ?_) (fun hn => by cases hn)
          refine t_ptr false wb0 wo1 H (by kernel_rfl) ?_
          refine t_gd false false (by kernel_rfl) (fun _ => ?_) (fun hn => by cases hn)
          refine t_op false (.fieldAddr 15 (.loc 0)) [.ptr wb0 wo1] H (.ptr wb0 (wo1 + 15)) H (by kernel_rfl) rfl ?_
          refine t_gd false false (by kernel_rfl) (fun _ => ?_) (fun hn => by cases hn)
          obtain ⟨hi, h⟩ := h
          refine t_arr false 5 1 wb0 (wo1 + 15) .i64 best7 H (by kernel_rfl) hi ?_
          refine t_gd false false (by kernel_rfl) (fun _ => ?_) (fun hn => by cases hn)
          obtain ⟨e18, hl, h⟩ := h
          refine t_load false none wb0 ((wo1 + 15) + Int.toNat best7 * 1) (.int .i64 e18) H (by kernel_rfl) hl ?_
          refine t_gd false false (by kernel_rfl) (fun _ => ?_) (fun hn => by cases hn)
          refine t_gd true true (by kernel_rfl) (fun _ => ?_) (fun hn => by cases hn)
          refine t_done [(.ptr wb0 wo1), (.int .i64 0), (.int .i64 p5), (.bool (decide (p5 < (len10 : Int)))), (.int .i64 best7), (.bool (decide (e17 < e18)))] H (by kernel_rfl) ?_
          refine then_norm ?_
          refine w_cond (t := (decide (e17 < e18))) rfl (fun hc => ?_) (fun hc => ?_)
          · replace h := h.1 (is_dec.t hc)
            refine w_run [0, 0] ?_
            refine t_done [(.ptr wb0 wo1), (.int .i64 0), (.int .i64 p5), (.bool (decide (p5 < (len10 : Int)))), (.int .i64 p5), (.bool (decide (e17 < e18)))] H (by kernel_rfl) ?_
            refine block_norm ?_
            refine then_norm ?_
            refine w_run [0, 0, 0] ?_
            refine t_done [(.ptr wb0 wo1), (.int .i64 0), (.int .i64 (IntKind.wrap .i64 (p5 + 1))), (.bool (decide (p5 < (len10 : Int)))), (.int .i64 p5), (.bool (decide (e17 < e18)))] H (by kernel_rfl) ?_
            obtain ⟨m', hm, h⟩ := h
            refine loop_norm ⟨m', hm, _, _, _, _, rfl, rfl, h⟩
          · replace h := h.2 (is_dec.f hc)
            refine w_skip ?_
            refine block_norm ?_
            refine then_norm ?_
            refine w_run [0, 0, 0] ?_
            refine t_done [(.ptr wb0 wo1), (.int .i64 0), (.int .i64 (IntKind.wrap .i64 (p5 + 1))), (.bool (decide (p5 < (len10 : Int)))), (.int .i64 best7), (.bool (decide (e17 < e18)))] H (by kernel_rfl) ?_
            obtain ⟨m', hm, h⟩ := h
            refine loop_norm ⟨m', hm, _, _, _, _, rfl, rfl, h⟩
        · replace h := h.1 (is_dec.t hc)
          refine t_gd true false (by kernel_rfl) (fun hn => by cases hn) (fun _ => ?_)
          refine t_gd true false (by kernel_rfl) (fun hn => by cases hn) (fun _ => ?_)
          refine t_gd true false (by kernel_rfl) (fun hn => by cases hn) (fun _ => ?_)
          refine t_gd true false (by kernel_rfl) (fun hn => by cases hn) (fun _ => ?_)
          refine t_gd true false (by kernel_rfl) (fun hn => by cases hn) (fun _ => ?_)
          refine t_gd true false (by kernel_rfl) (fun hn => by cases hn) (fun _ => ?_)
          refine t_gd true false (by kernel_rfl) (fun hn => by cases hn) (fun _ => ?_)
          refine t_gd true false (by kernel_rfl) (fun hn => by cases hn) (fun _ => ?_)
          refine t_gd true false (by kernel_rfl) (fun hn => by cases hn) (fun _ => ?_)
          refine t_gd true false (by kernel_rfl) (fun hn => by cases hn) (fun _ => ?_)
          refine t_gd true false (by kernel_rfl) (fun hn => by cases hn) (fun _ => ?_)
          refine t_gd true false (by kernel_rfl) (fun hn => by cases hn) (fun _ => ?_)
          refine t_gd true true (by kernel_rfl) (fun _ => ?_) (fun hn => by cases hn)
          refine t_done [(.ptr wb0 wo1), (.int .i64 0), (.int .i64 p5), (.bool (decide (p5 < (len10 : Int)))), (.int .i64 best7), (.bool true)] H (by kernel_rfl) ?_
          refine then_norm ?_
          refine w_cond (t := true) rfl (fun _ => ?_) (fun hc => by cases hc)
          refine w_run [0, 0] ?_
          refine t_done [(.ptr wb0 wo1), (.int .i64 0), (.int .i64 p5), (.bool (decide (p5 < (len10 : Int)))), (.int .i64 p5), (.bool true)] H (by kernel_rfl) ?_
          refine block_norm ?_
          refine then_norm ?_
          refine w_run [0, 0, 0] ?_
          refine t_done [(.ptr wb0 wo1), (.int .i64 0), (.int .i64 (IntKind.wrap .i64 (p5 + 1))), (.bool (decide (p5 < (len10 : Int)))), (.int .i64 p5), (.bool true)] H (by kernel_rfl) ?_
          obtain ⟨m', hm, h⟩ := h
          refine loop_norm ⟨m', hm, _, _, _, _, rfl, rfl, h⟩
      · replace h := h.2 (is_dec.f hc)
        refine t_gd false true (by kernel_rfl) (fun hn => by cases hn) (fun _ => ?_)
        refine t_gd false true (by kernel_rfl) (fun hn => by cases hn) (fun _ => ?_)
        refine t_gdU false (by kernel_rfl) ?_
        refine t_gdU false (by kernel_rfl) ?_
        refine t_gdU false (by kernel_rfl) ?_
        refine t_gdU false (by kernel_rfl) ?_
        refine t_gdU false (by kernel_rfl) ?_
        refine t_gdU false (by kernel_rfl) ?_
        refine t_gdU false (by kernel_rfl) ?_
        refine t_gdU false (by kernel_rfl) ?_
        refine t_gdU false (by kernel_rfl) ?_
        refine t_gdU false (by kernel_rfl) ?_
        refine t_gdU false (by kernel_rfl) ?_
        refine t_gdU false (by kernel_rfl) ?_
        refine t_gdU false (by kernel_rfl) ?_
        refine t_gd false true (by kernel_rfl) (fun hn => by cases hn) (fun _ => ?_)
        refine t_done [(.ptr wb0 wo1), (.int .i64 0), (.int .i64 p5), (.bool (decide (p5 < (len10 : Int)))), (.int .i64 best7), (.bool false)] H (by kernel_rfl) ?_
        refine then_norm ?_
        refine w_cond (t := false) rfl (fun hc => by cases hc) (fun _ => ?_)
        refine w_skip ?_
        refine block_norm ?_
        refine then_norm ?_
        refine w_run [0, 0, 0] ?_
        refine t_done [(.ptr wb0 wo1), (.int .i64 0), (.int .i64 (IntKind.wrap .i64 (p5 + 1))), (.bool (decide (p5 < (len10 : Int)))), (.int .i64 best7), (.bool false)] H (by kernel_rfl) ?_
        obtain ⟨m', hm, h⟩ := h
        refine loop_norm ⟨m', hm, _, _, _, _, rfl, rfl, h⟩
    · replace h := h.2 ((is_not is_raw).f hc)
      refine t_gd false true (by kernel_rfl) (fun hn => by cases hn) (fun _ => ?_)
      refine t_gd false true (by kernel_rfl) (fun hn => by cases hn) (fun _ => ?_)
      refine t_gd false true (by kernel_rfl) (fun hn => by cases hn) (fun _ => ?_)
      refine t_gd false true (by kernel_rfl) (fun hn => by cases hn) (fun _ => ?_)
      refine t_gd false true (by kernel_rfl) (fun hn => by cases hn) (fun _ => ?_)
      refine t_gd false true (by kernel_rfl) (fun hn => by cases hn) (fun _ => ?_)
      refine t_gd false true (by kernel_rfl) (fun hn => by cases hn) (fun _ => ?_)
      refine t_gd false true (by kernel_rfl) (fun hn => by cases hn) (fun _ => ?_)
      refine t_gd false true (by kernel_rfl) (fun hn => by cases hn) (fun _ => ?_)
      refine t_gd false true (by kernel_rfl) (fun hn => by cases hn) (fun _ => ?_)
      refine t_gd false true (by kernel_rfl) (fun hn => by cases hn) (fun _ => ?_)
      refine t_gd false true (by kernel_rfl) (fun hn => by cases hn) (fun _ => ?_)
      refine t_gd false true (by kernel_rfl) (fun hn => by cases hn) (fun _ => ?_)
      refine t_gd false true (by kernel_rfl) (fun hn => by cases hn) (fun _ => ?_)
      refine t_gd false true (by kernel_rfl) (fun hn => by cases hn) (fun _ => ?_)
      refine t_gd false true (by kernel_rfl) (fun hn => by cases hn) (fun _ => ?_)
      refine t_gd false true (by kernel_rfl) (fun hn => by cases hn) (fun _ => ?_)
      refine t_gdU false (by kernel_rfl) ?_
      refine t_gdU false (by kernel_rfl) ?_
      refine t_gdU false (by kernel_rfl) ?_
      refine t_gdU false (by kernel_rfl) ?_
      refine t_gdU false (by kernel_rfl) ?_
      refine t_gdU false (by kernel_rfl) ?_
      refine t_gdU false (by kernel_rfl) ?_
      refine t_gdU false (by kernel_rfl) ?_
      refine t_gdU false (by kernel_rfl) ?_
      refine t_gdU false (by kernel_rfl) ?_
      refine t_gdU false (by kernel_rfl) ?_
      refine t_gdU false (by kernel_rfl) ?_
      refine t_gdU false (by kernel_rfl) ?_
      refine t_gd false true (by kernel_rfl) (fun hn => by cases hn) (fun _ => ?_)
      refine t_done [(.ptr wb0 wo1), (.int .i64 0), (.int .i64 p5), (.bool (decide (p5 < (len10 : Int)))), (.int .i64 best7), (.bool false)] H (by kernel_rfl) ?_
      refine then_norm ?_
      refine w_cond (t := false) rfl (fun hc => by cases hc) (fun _ => ?_)
      refine w_skip ?_
      refine block_norm ?_
      refine then_norm ?_
      refine w_run [0, 0, 0] ?_
      refine t_done [(.ptr wb0 wo1), (.int .i64 0), (.int .i64 (IntKind.wrap .i64 (p5 + 1))), (.bool (decide (p5 < (len10 : Int)))), (.int .i64 best7), (.bool false)] H (by kernel_rfl) ?_
      obtain ⟨m', hm, h⟩ := h
      refine loop_norm ⟨m', hm, _, _, _, _, rfl, rfl, h⟩
  · replace h := h.2 (is_dec.f hc)
    refine w_exit ?_
    refine then_exit ?_
    refine loop_exit ?_
    refine block_exit ?_
    refine then_norm ?_
    refine w_seq ?_
    refine w_run [0, 0] ?_
    refine t_done [(.ptr wb0 wo1), (.int .i64 best7), (.int .i64 p5), (.bool (decide (p5 < (len10 : Int)))), (.int .i64 best7), d8] H (by kernel_rfl) ?_
    refine then_norm ?_
    refine w_ret ?_
    exact body_ret (vs := [(.int .i64 best7)]) _ (by kernel_rfl) rfl h

def rf_FWorld_Choice : RFunc := ⟨2, 14, [.var 2],
 ((.seq (.ops [⟨.move (.k (.int .i64 0)), none, (some 2), true⟩])
 ((.seq (.ops [⟨.move (.var 0), none, none, false⟩, ⟨.nilCheck (.loc 0), none, none, false⟩, ⟨.fieldAddr 1 (.loc 1), none, none, false⟩, ⟨.load none (.loc 2), none, none, false⟩, ⟨.move (.var 1), none, none, false⟩, ⟨.indexAddr 1 (.loc 3) (.loc 4), none, none, false⟩, ⟨.load none (.loc 5), none, none, false⟩, ⟨.move (.var 0), none, none, false⟩, ⟨.move (.var 1), none, none, false⟩, ⟨.nilCheck (.loc 7), none, none, false⟩, ⟨.fieldAddr 10 (.loc 9), none, none, false⟩, ⟨.indexArr 5 1 (.loc 10) (.loc 8), none, none, false⟩, ⟨.load none (.loc 11), none, none, false⟩, ⟨.indexAddr 5 (.loc 6) (.loc 12), none, none, false⟩, ⟨.load (some 5) (.loc 13), none, none, false⟩, ⟨.tomb 1 (.k (.agg [.int .i64 0, .int .i64 0, .int .i64 0, .int .i64 0, .empty])), none, (some 3), false⟩, ⟨.upd 5 0 (.loc 15) (.loc 14), none, (some 3), true⟩])
 ((.seq (.ops [⟨.move (.var 0), none, none, false⟩, ⟨.nilCheck (.loc 0), none, none, false⟩, ⟨.fieldAddr 25 (.loc 1), none, none, false⟩, ⟨.load none (.loc 2), none, none, false⟩, ⟨.move (.var 0), none, none, false⟩, ⟨.move (.var 1), none, none, false⟩, ⟨.nilCheck (.loc 4), none, none, false⟩, ⟨.fieldAddr 15 (.loc 6), none, none, false⟩, ⟨.indexArr 5 1 (.loc 7) (.loc 5), none, none, false⟩, ⟨.load none (.loc 8), none, none, false⟩, ⟨.bin .sub .no (.loc 3) (.loc 9), none, none, false⟩, ⟨.field 0 none (.var 3), none, none, false⟩, ⟨.field 3 none (.var 3), none, none, false⟩, ⟨.bin .geq .no (.loc 10) (.loc 12), none, none, true⟩, ⟨.move (.loc 13), none, (some 12), true⟩])
 ((.seq ((.seq (.ops [⟨.field 0 none (.var 3), none, none, true⟩, ⟨.field 0 none (.var 3), none, none, true⟩, ⟨.bin .eql .no (.loc 1) (.k (.int .i64 1)), none, (some 4), true⟩])
 (.cond (.var 4) ((.seq ((.seq (.ops [⟨.move (.var 0), none, none, false⟩, ⟨.field 0 none (.var 3), none, none, false⟩, ⟨.field 1 none (.var 3), none, none, false⟩, ⟨.nilCheck (.loc 0), none, none, false⟩, ⟨.fieldAddr 2 (.loc 3), none, none, false⟩, ⟨.indexArr 4 1 (.loc 4) (.loc 2), none, none, false⟩, ⟨.load none (.loc 5), none, none, false⟩, ⟨.len (.loc 6), none, none, false⟩, ⟨.move (.var 0), none, none, false⟩, ⟨.field 0 none (.var 3), none, none, false⟩, ⟨.field 1 none (.var 3), none, none, false⟩, ⟨.nilCheck (.loc 8), none, none, false⟩, ⟨.fieldAddr 6 (.loc 11), none, none, false⟩, ⟨.indexArr 4 1 (.loc 12) (.loc 10), none, none, false⟩, ⟨.load none (.loc 13), none, none, false⟩, ⟨.bin .sub .no (.loc 7) (.loc 14), none, none, false⟩, ⟨.move (.var 0), none, none, false⟩, ⟨.nilCheck (.loc 16), none, none, false⟩, ⟨.fieldAddr 0 (.loc 17), none, none, false⟩, ⟨.load none (.loc 18), none, none, false⟩, ⟨.field 0 none (.var 3), none, none, false⟩, ⟨.field 1 none (.var 3), none, none, false⟩, ⟨.indexAddr 1 (.loc 19) (.loc 21), none, none, false⟩, ⟨.load none (.loc 22), none, none, false⟩, ⟨.bin .lss .no (.loc 15) (.loc 23), none, (some 5), true⟩])
 (.cond (.var 5) ((.seq (.ops [⟨.field 0 none (.var 3), none, none, true⟩, ⟨.field 1 none (.var 3), none, none, true⟩, ⟨.move (.loc 1), none, (some 2), true⟩])
 (.ret))) (.skip))))
 ((.seq (.ops [⟨.move (.k (.int .i64 (-2))), none, (some 2), true⟩])
 (.ret))))) (.skip))))
 ((.seq ((.seq (.ops [⟨.field 0 none (.var 3), none, none, true⟩, ⟨.field 0 none (.var 3), none, none, true⟩, ⟨.bin .eql .no (.loc 1) (.k (.int .i64 2)), none, (some 6), true⟩])
 (.cond (.var 6) ((.seq ((.seq (.ops [⟨.move (.var 0), none, none, false⟩, ⟨.field 0 none (.var 3), none, none, false⟩, ⟨.field 1 none (.var 3), none, none, false⟩, ⟨.nilCheck (.loc 0), none, none, false⟩, ⟨.fieldAddr 2 (.loc 3), none, none, false⟩, ⟨.indexArr 4 1 (.loc 4) (.loc 2), none, none, false⟩, ⟨.load none (.loc 5), none, none, false⟩, ⟨.len (.loc 6), none, none, false⟩, ⟨.move (.var 0), none, none, false⟩, ⟨.field 0 none (.var 3), none, none, false⟩, ⟨.field 1 none (.var 3), none, none, false⟩, ⟨.nilCheck (.loc 8), none, none, false⟩, ⟨.fieldAddr 6 (.loc 11), none, none, false⟩, ⟨.indexArr 4 1 (.loc 12) (.loc 10), none, none, false⟩, ⟨.load none (.loc 13), none, none, false⟩, ⟨.bin .gtr .no (.loc 7) (.loc 14), none, (some 7), true⟩])
 (.cond (.var 7) ((.seq (.ops [⟨.field 0 none (.var 3), none, none, true⟩, ⟨.field 1 none (.var 3), none, none, true⟩, ⟨.move (.loc 1), none, (some 2), true⟩])
 (.ret))) (.skip))))
 ((.seq (.ops [⟨.move (.k (.int .i64 (-2))), none, (some 2), true⟩])
 (.ret))))) (.skip))))
 ((.seq ((.seq (.ops [⟨.move (.k (.int .i64 0)), none, (some 8), true⟩])
 (.block 0 (.loop ((.seq ((.seq (.ops [⟨.move (.var 8), none, none, true⟩, ⟨.field 0 none (.var 3), none, none, true⟩, ⟨.field 4 none (.var 3), none, none, true⟩, ⟨.len (.loc 2), none, none, true⟩, ⟨.bin .lss .no (.loc 0) (.loc 3), none, (some 9), true⟩])
 (.cond (.var 9) (.skip) (.exit 0))))
 ((.seq (.block 1 ((.seq (.ops [⟨.field 0 none (.var 3), none, none, true⟩, ⟨.field 4 none (.var 3), none, none, true⟩, ⟨.move (.var 8), none, none, true⟩, ⟨.indexAddr 1 (.loc 1) (.loc 2), none, none, true⟩, ⟨.load none (.loc 3), none, none, true⟩, ⟨.move (.loc 4), none, (some 10), true⟩])
 ((.seq (.ops [⟨.move (.var 0), none, none, false⟩, ⟨.move (.var 10), none, none, false⟩, ⟨.nilCheck (.loc 0), none, none, false⟩, ⟨.fieldAddr 2 (.loc 2), none, none, false⟩, ⟨.indexArr 4 1 (.loc 3) (.loc 1), none, none, false⟩, ⟨.load none (.loc 4), none, none, false⟩, ⟨.len (.loc 5), none, none, false⟩, ⟨.move (.var 0), none, none, false⟩, ⟨.move (.var 10), none, none, false⟩, ⟨.nilCheck (.loc 7), none, none, false⟩, ⟨.fieldAddr 6 (.loc 9), none, none, false⟩, ⟨.indexArr 4 1 (.loc 10) (.loc 8), none, none, false⟩, ⟨.load none (.loc 11), none, none, false⟩, ⟨.bin .gtr .no (.loc 6) (.loc 12), none, (some 11), true⟩])
 (.cond (.var 11) ((.seq (.ops [⟨.move (.var 10), none, none, true⟩, ⟨.move (.loc 0), none, (some 2), true⟩])
 (.ret))) (.skip)))))))
 (.ops [⟨.move (.var 8), none, none, true⟩, ⟨.bin .add .no (.loc 0) (.k (.int .i64 1)), none, none, true⟩, ⟨.move (.loc 1), none, (some 8), true⟩])))))))))
 ((.seq ((.seq (.ops [⟨.move (.var 12), none, none, true⟩, ⟨.move (.loc 0), none, none, true⟩, ⟨.field 0 none (.var 3), none, none, true⟩, ⟨.field 3 none (.var 3), none, none, true⟩, ⟨.bin .geq .no (.loc 3) (.k (.int .i64 0)), none, none, true⟩, ⟨.pick (.loc 1) (.loc 4) (.k (.bool false)), none, (some 13), true⟩])
 (.cond (.var 13) ((.seq (.ops [⟨.move (.k (.int .i64 (-1))), none, (some 2), true⟩])
 (.ret))) (.skip))))
 ((.seq (.ops [⟨.move (.k (.int .i64 (-2))), none, (some 2), true⟩])
 (.ret))))))))))))))))), none⟩
theorem v_FWorld_Choice {F : Nat → Option RFunc} {me : Nat} (hF : F me = some (rf_FWorld_Choice )) {fl : Nat} {H : Heap} {Q : AV → Heap → Prop} (wb0 : Nat) (wo1 : Nat) (p2 : Int)
  (h : ∃ (e3 : AV), rload H none wb0 (wo1 + 1) = some e3 ∧ ∃ (e4 : AV), getA H 1 none e3 p2 0 = some e4 ∧ (0 ≤ p2 ∧ p2 < ((5 : Nat) : Int)) ∧ ∃ (e6 : Int), rload H none wb0 ((wo1 + 10) + Int.toNat p2 * 1) = some (.int .i64 e6) ∧ ∃ (e7 : Int) (e8 : Int) (e9 : Int) (e10 : Int) (e11 : AV), getA H 5 (some 5) e4 e6 0 = some (.agg [(.int .i64 e7), (.int .i64 e8), (.int .i64 e9), (.int .i64 e10), e11]) ∧ ∀ (H13 : Heap), Dead1 H 1 H13 → Scal e11 ∧ ∃ (e15 : Int), rload H13 none wb0 (wo1 + 25) = some (.int .i64 e15) ∧ (0 ≤ p2 ∧ p2 < ((5 : Nat) : Int)) ∧ ∃ (e16 : Int), rload H13 none wb0 ((wo1 + 15) + Int.toNat p2 * 1) = some (.int .i64 e16) ∧ ((e7 = 1) → (0 ≤ e8 ∧ e8 < ((4 : Nat) : Int)) ∧ ∃ (e17 : AV), rload H13 none wb0 ((wo1 + 2) + Int.toNat e8 * 1) = some e17 ∧ ∃ len18 : Nat, lenA e17 = some len18 ∧ (0 ≤ e8 ∧ e8 < ((4 : Nat) : Int)) ∧ ∃ (e19 : Int), rload H13 none wb0 ((wo1 + 6) + Int.toNat e8 * 1) = some (.int .i64 e19) ∧ ∃ (e20 : AV), rload H13 none wb0 wo1 = some e20 ∧ ∃ (e21 : Int), getA H13 1 none e20 e8 0 = some (.int .i64 e21) ∧ (((IntKind.wrap .i64 ((len18 : Int) - e19)) < e21) → Q (.int .i64 e8) H13) ∧ (¬((IntKind.wrap .i64 ((len18 : Int) - e19)) < e21) → Q (.int .i64 (-2)) H13)) ∧ (¬(e7 = 1) → ((e7 = 2) → (0 ≤ e8 ∧ e8 < ((4 : Nat) : Int)) ∧ ∃ (e23 : AV), rload H13 none wb0 ((wo1 + 2) + Int.toNat e8 * 1) = some e23 ∧ ∃ len24 : Nat, lenA e23 = some len24 ∧ (0 ≤ e8 ∧ e8 < ((4 : Nat) : Int)) ∧ ∃ (e25 : Int), rload H13 none wb0 ((wo1 + 6) + Int.toNat e8 * 1) = some (.int .i64 e25) ∧ (((len24 : Int) > e25) → Q (.int .i64 e8) H13) ∧ (¬((len24 : Int) > e25) → Q (.int .i64 (-2)) H13)) ∧ (¬(e7 = 2) → ∃ (J26 : Nat → Int → Prop) (k27 : Nat), J26 k27 0 ∧ (∀ (m28 : Nat) (i30 : Int), J26 m28 i30 → ∃ len34 : Nat, lenA e11 = some len34 ∧ ((i30 < (len34 : Int)) → ∃ (e35 : Int), getA H13 1 none e11 i30 0 = some (.int .i64 e35) ∧ (0 ≤ e35 ∧ e35 < ((4 : Nat) : Int)) ∧ ∃ (e37 : AV), rload H13 none wb0 ((wo1 + 2) + Int.toNat e35 * 1) = some e37 ∧ ∃ len38 : Nat, lenA e37 = some len38 ∧ (0 ≤ e35 ∧ e35 < ((4 : Nat) : Int)) ∧ ∃ (e39 : Int), rload H13 none wb0 ((wo1 + 6) + Int.toNat e35 * 1) = some (.int .i64 e39) ∧ (((len38 : Int) > e39) → Q (.int .i64 e35) H13) ∧ (¬((len38 : Int) > e39) → ∃ m40 : Nat, m40 < m28 ∧ J26 m40 (IntKind.wrap .i64 (i30 + 1)))) ∧ (¬(i30 < (len34 : Int)) → (((((IntKind.wrap .i64 (e15 - e16)) ≥ e10) ∧ (e10 ≥ 0))) → Q (.int .i64 (-1)) H13) ∧ (¬((((IntKind.wrap .i64 (e15 - e16)) ≥ e10) ∧ (e10 ≥ 0))) → Q (.int .i64 (-2)) H13)))))) : Ret F fl me [(.ptr wb0 wo1), (.int .i64 p2)] H Q := by
  refine ret_intro hF rfl ?_
  refine w_seq ?_
  refine w_run [0] ?_
  refine t_done [(.ptr wb0 wo1), (.int .i64 p2), (.int .i64 0), .undef, .undef, .undef, .undef, .undef, .undef, .undef, .undef, .undef, .undef, .undef] H (by kernel_rfl) ?_
  refine then_norm ?_
  refine w_seq ?_
  refine w_run [0, 1, 1, 1, 0, 1, 1, 0, 0, 1, 1, 1, 1, 1, 1, 1, 1] ?_
  refine t_ptr false wb0 wo1 H (by kernel_rfl) ?_
  refine t_op false (.fieldAddr 1 (.loc 0)) [.ptr wb0 wo1] H (.ptr wb0 (wo1 + 1)) H (by kernel_rfl) rfl ?_
  obtain ⟨e3, hl, h⟩ := h
  refine t_load false none wb0 (wo1 + 1) e3 H (by kernel_rfl) hl ?_
  obtain ⟨e4, hg5, h⟩ := h
  refine t_idxG false 1 e3 .i64 p2 H (by kernel_rfl) hg5 ?_
  refine t_loadG false none 1 e3 p2 0 e4 H (by kernel_rfl) hg5 ?_
  refine t_ptr false wb0 wo1 H (by kernel_rfl) ?_
  refine t_op false (.fieldAddr 10 (.loc 0)) [.ptr wb0 wo1] H (.ptr wb0 (wo1 + 10)) H (by kernel_rfl) rfl ?_
  obtain ⟨hi, h⟩ := h
  refine t_arr false 5 1 wb0 (wo1 + 10) .i64 p2 H (by kernel_rfl) hi ?_
  obtain ⟨e6, hl, h⟩ := h
  refine t_load false none wb0 ((wo1 + 10) + Int.toNat p2 * 1) (.int .i64 e6) H (by kernel_rfl) hl ?_
  obtain ⟨e7, e8, e9, e10, e11, hg12, h⟩ := h
  refine t_idxG false 5 e4 .i64 e6 H (by kernel_rfl) hg12 ?_
  refine t_loadG false (some 5) 5 e4 e6 0 (.agg [(.int .i64 e7), (.int .i64 e8), (.int .i64 e9), (.int .i64 e10), e11]) H (by kernel_rfl) hg12 ?_
  obtain ⟨H13, hb⟩ : ∃ H', Dead1 H 1 H' := ⟨_, ⟨rfl⟩⟩
  replace h := h H13 hb
  refine t_tomb false 1 (.agg [(.int .i64 0), (.int .i64 0), (.int .i64 0), (.int .i64 0), .empty]) [(.int .i64 0), (.int .i64 0), (.int .i64 0), (.int .i64 0), .empty] H13 H (by kernel_rfl) rfl hb ?_
  obtain ⟨hs14, h⟩ := h
  refine t_upd true 5 0 [(.int .i64 0), (.int .i64 0), (.int .i64 0), (.int .i64 0), .empty] (.agg [(.int .i64 e7), (.int .i64 e8), (.int .i64 e9), (.int .i64 e10), e11]) [(.int .i64 e7), (.int .i64 e8), (.int .i64 e9), (.int .i64 e10), e11] [(.int .i64 e7), (.int .i64 e8), (.int .i64 e9), (.int .i64 e10), e11] H13 (by kernel_rfl) rfl (all_c rfl (all_c rfl (all_c rfl (all_c rfl (all_c hs14.2 all_n))))) ⟨rfl, Nat.le_of_ble_eq_true (by kernel_rfl), rfl⟩ ?_
  refine t_done [(.ptr wb0 wo1), (.int .i64 p2), (.int .i64 0), (.agg [(.int .i64 e7), (.int .i64 e8), (.int .i64 e9), (.int .i64 e10), e11]), .undef, .undef, .undef, .undef, .undef, .undef, .undef, .undef, .undef, .undef] H13 (by kernel_rfl) ?_
  refine then_norm ?_
  refine w_seq ?_
  refine w_run [0, 1, 1, 1, 0, 0, 1, 1, 1, 1, 0, 0, 0, 0, 0] ?_
  refine t_ptr false wb0 wo1 H13 (by kernel_rfl) ?_
  refine t_op false (.fieldAddr 25 (.loc 0)) [.ptr wb0 wo1] H13 (.ptr wb0 (wo1 + 25)) H13 (by kernel_rfl) rfl ?_
  obtain ⟨e15, hl, h⟩ := h
  refine t_load false none wb0 (wo1 + 25) (.int .i64 e15) H13 (by kernel_rfl) hl ?_
  refine t_ptr false wb0 wo1 H13 (by kernel_rfl) ?_
  refine t_op false (.fieldAddr 15 (.loc 0)) [.ptr wb0 wo1] H13 (.ptr wb0 (wo1 + 15)) H13 (by kernel_rfl) rfl ?_
  obtain ⟨hi, h⟩ := h
  refine t_arr false 5 1 wb0 (wo1 + 15) .i64 p2 H13 (by kernel_rfl) hi ?_
  obtain ⟨e16, hl, h⟩ := h
  refine t_load false none wb0 ((wo1 + 15) + Int.toNat p2 * 1) (.int .i64 e16) H13 (by kernel_rfl) hl ?_
  refine t_done [(.ptr wb0 wo1), (.int .i64 p2), (.int .i64 0), (.agg [(.int .i64 e7), (.int .i64 e8), (.int .i64 e9), (.int .i64 e10), e11]), .undef, .undef, .undef, .undef, .undef, .undef, .undef, .undef, (.bool (decide ((IntKind.wrap .i64 (e15 - e16)) ≥ e10))), .undef] H13 (by kernel_rfl) ?_
  refine then_norm ?_
  refine w_seq ?_
  refine w_seq ?_
  refine w_run [0, 0, 0] ?_
  refine t_done [(.ptr wb0 wo1), (.int .i64 p2), (.int .i64 0), (.agg [(.int .i64 e7), (.int .i64 e8), (.int .i64 e9), (.int .i64 e10), e11]), (.bool ((e7) == 1)), .undef, .undef, .undef, .undef, .undef, .undef, .undef, (.bool (decide ((IntKind.wrap .i64 (e15 - e16)) ≥ e10))), .undef] H13 (by kernel_rfl) ?_
  refine then_norm ?_
  refine w_cond (t := ((e7) == 1)) rfl (fun hc => ?_) (fun hc => ?_)
  · replace h := h.1 (is_eq.t hc)
    refine w_seq ?_
    refine w_seq ?_
    refine w_run [0, 0, 0, 1, 1, 1, 1, 1, 0, 0, 0, 1, 1, 1, 1, 0, 0, 1, 1, 1, 0, 0, 1, 1, 0] ?_
    refine t_ptr false wb0 wo1 H13 (by kernel_rfl) ?_
    refine t_op false (.fieldAddr 2 (.loc 0)) [.ptr wb0 wo1] H13 (.ptr wb0 (wo1 + 2)) H13 (by kernel_rfl) rfl ?_
    obtain ⟨hi, h⟩ := h
    refine t_arr false 4 1 wb0 (wo1 + 2) .i64 e8 H13 (by kernel_rfl) hi ?_
    obtain ⟨e17, hl, h⟩ := h
    refine t_load false none wb0 ((wo1 + 2) + Int.toNat e8 * 1) e17 H13 (by kernel_rfl) hl ?_
    obtain ⟨len18, hl, h⟩ := h
    refine t_len false e17 len18 H13 (by kernel_rfl) hl ?_
    refine t_ptr false wb0 wo1 H13 (by kernel_rfl) ?_
    refine t_op false (.fieldAddr 6 (.loc 0)) [.ptr wb0 wo1] H13 (.ptr wb0 (wo1 + 6)) H13 (by kernel_rfl) rfl ?_
    obtain ⟨hi, h⟩ := h
    refine t_arr false 4 1 wb0 (wo1 + 6) .i64 e8 H13 (by kernel_rfl) hi ?_
    obtain ⟨e19, hl, h⟩ := h
    refine t_load false none wb0 ((wo1 + 6) + Int.toNat e8 * 1) (.int .i64 e19) H13 (by kernel_rfl) hl ?_
    refine t_ptr false wb0 wo1 H13 (by kernel_rfl) ?_
    refine t_op false (.fieldAddr 0 (.loc 0)) [.ptr wb0 wo1] H13 (.ptr wb0 wo1) H13 (by kernel_rfl) rfl ?_
    obtain ⟨e20, hl, h⟩ := h
    refine t_load false none wb0 wo1 e20 H13 (by kernel_rfl) hl ?_
    obtain ⟨e21, hg22, h⟩ := h
    refine t_idxG false 1 e20 .i64 e8 H13 (by kernel_rfl) hg22 ?_
    refine t_loadG false none 1 e20 e8 0 (.int .i64 e21) H13 (by kernel_rfl) hg22 ?_
    refine t_done [(.ptr wb0 wo1), (.int .i64 p2), (.int .i64 0), (.agg [(.int .i64 e7), (.int .i64 e8), (.int .i64 e9), (.int .i64 e10), e11]), (.bool ((e7) == 1)), (.bool (decide ((IntKind.wrap .i64 ((len18 : Int) - e19)) < e21))), .undef, .undef, .undef, .undef, .undef, .undef, (.bool (decide ((IntKind.wrap .i64 (e15 - e16)) ≥ e10))), .undef] H13 (by kernel_rfl) ?_
    refine then_norm ?_
    refine w_cond (t := (decide ((IntKind.wrap .i64 ((len18 : Int) - e19)) < e21))) rfl (fun hc => ?_) (fun hc => ?_)
    · replace h := h.1 (is_dec.t hc)
      refine w_seq ?_
      refine w_run [0, 0, 0] ?_
      refine t_done [(.ptr wb0 wo1), (.int .i64 p2), (.int .i64 e8), (.agg [(.int .i64 e7), (.int .i64 e8), (.int .i64 e9), (.int .i64 e10), e11]), (.bool ((e7) == 1)), (.bool (decide ((IntKind.wrap .i64 ((len18 : Int) - e19)) < e21))), .undef, .undef, .undef, .undef, .undef, .undef, (.bool (decide ((IntKind.wrap .i64 (e15 - e16)) ≥ e10))), .undef] H13 (by kernel_rfl) ?_
      refine then_norm ?_
      refine w_ret ?_
      refine then_ret ?_
      refine then_ret ?_
      exact body_ret (vs := [(.int .i64 e8)]) _ (by kernel_rfl) rfl h
    · replace h := h.2 (is_dec.f hc)
      refine w_skip ?_
      refine then_norm ?_
      refine w_seq ?_
      refine w_run [0] ?_
      refine t_done [(.ptr wb0 wo1), (.int .i64 p2), (.int .i64 (-2)), (.agg [(.int .i64 e7), (.int .i64 e8), (.int .i64 e9), (.int .i64 e10), e11]), (.bool ((e7) == 1)), (.bool (decide ((IntKind.wrap .i64 ((len18 : Int) - e19)) < e21))), .undef, .undef, .undef, .undef, .undef, .undef, (.bool (decide ((IntKind.wrap .i64 (e15 - e16)) ≥ e10))), .undef] H13 (by kernel_rfl) ?_
      refine then_norm ?_
      refine w_ret ?_
      refine then_ret ?_
      exact body_ret (vs := [(.int .i64 (-2))]) _ (by kernel_rfl) rfl h
  · replace h := h.2 (is_eq.f hc)
    refine w_skip ?_
    refine then_norm ?_
    refine w_seq ?_
    refine w_seq ?_
    refine w_run [0, 0, 0] ?_
    refine t_done [(.ptr wb0 wo1), (.int .i64 p2), (.int .i64 0), (.agg [(.int .i64 e7), (.int .i64 e8), (.int .i64 e9), (.int .i64 e10), e11]), (.bool ((e7) == 1)), .undef, (.bool ((e7) == 2)), .undef, .undef, .undef, .undef, .undef, (.bool (decide ((IntKind.wrap .i64 (e15 - e16)) ≥ e10))), .undef] H13 (by kernel_rfl) ?_
    refine then_norm ?_
    refine w_cond (t := ((e7) == 2)) rfl (fun hc => ?_) (fun hc => ?_)
    · replace h := h.1 (is_eq.t hc)
      refine w_seq ?_
      refine w_seq ?_
      refine w_run [0, 0, 0, 1, 1, 1, 1, 1, 0, 0, 0, 1, 1, 1, 1, 0] ?_
      refine t_ptr false wb0 wo1 H13 (by kernel_rfl) ?_
      refine t_op false (.fieldAddr 2 (.loc 0)) [.ptr wb0 wo1] H13 (.ptr wb0 (wo1 + 2)) H13 (by kernel_rfl) rfl ?_
      obtain ⟨hi, h⟩ := h
      refine t_arr false 4 1 wb0 (wo1 + 2) .i64 e8 H13 (by kernel_rfl) hi ?_
      obtain ⟨e23, hl, h⟩ := h
      refine t_load false none wb0 ((wo1 + 2) + Int.toNat e8 * 1) e23 H13 (by kernel_rfl) hl ?_
      obtain ⟨len24, hl, h⟩ := h
      refine t_len false e23 len24 H13 (by kernel_rfl) hl ?_
      refine t_ptr false wb0 wo1 H13 (by kernel_rfl) ?_
      refine t_op false (.fieldAddr 6 (.loc 0)) [.ptr wb0 wo1] H13 (.ptr wb0 (wo1 + 6)) H13 (by kernel_rfl) rfl ?_
      obtain ⟨hi, h⟩ := h
      refine t_arr false 4 1 wb0 (wo1 + 6) .i64 e8 H13 (by kernel_rfl) hi ?_
      obtain ⟨e25, hl, h⟩ := h
      refine t_load false none wb0 ((wo1 + 6) + Int.toNat e8 * 1) (.int .i64 e25) H13 (by kernel_rfl) hl ?_
      refine t_done [(.ptr wb0 wo1), (.int .i64 p2), (.int .i64 0), (.agg [(.int .i64 e7), (.int .i64 e8), (.int .i64 e9), (.int .i64 e10), e11]), (.bool ((e7) == 1)), .undef, (.bool ((e7) == 2)), (.bool (decide ((len24 : Int) > e25))), .undef, .undef, .undef, .undef, (.bool (decide ((IntKind.wrap .i64 (e15 - e16)) ≥ e10))), .undef] H13 (by kernel_rfl) ?_
      refine then_norm ?_
      refine w_cond (t := (decide ((len24 : Int) > e25))) rfl (fun hc => ?_) (fun hc => ?_)
      · replace h := h.1 (is_dec.t hc)
        refine w_seq ?_
        refine w_run [0, 0, 0] ?_
        refine t_done [(.ptr wb0 wo1), (.int .i64 p2), (.int .i64 e8), (.agg [(.int .i64 e7), (.int .i64 e8), (.int .i64 e9), (.int .i64 e10), e11]), (.bool ((e7) == 1)), .undef, (.bool ((e7) == 2)), (.bool (decide ((len24 : Int) > e25))), .undef, .undef, .undef, .undef, (.bool (decide ((IntKind.wrap .i64 (e15 - e16)) ≥ e10))), .undef] H13 (by kernel_rfl) ?_
        refine then_norm ?_
        refine w_ret ?_
        refine then_ret ?_
        refine then_ret ?_
        exact body_ret (vs := [(.int .i64 e8)]) _ (by kernel_rfl) rfl h
      · replace h := h.2 (is_dec.f hc)
        refine w_skip ?_
        refine then_norm ?_
        refine w_seq ?_
        refine w_run [0] ?_
        refine t_done [(.ptr wb0 wo1), (.int .i64 p2), (.int .i64 (-2)), (.agg [(.int .i64 e7), (.int .i64 e8), (.int .i64 e9), (.int .i64 e10), e11]), (.bool ((e7) == 1)), .undef, (.bool ((e7) == 2)), (.bool (decide ((len24 : Int) > e25))), .undef, .undef, .undef, .undef, (.bool (decide ((IntKind.wrap .i64 (e15 - e16)) ≥ e10))), .undef] H13 (by kernel_rfl) ?_
        refine then_norm ?_
        refine w_ret ?_
        refine then_ret ?_
        exact body_ret (vs := [(.int .i64 (-2))]) _ (by kernel_rfl) rfl h
    · replace h := h.2 (is_eq.f hc)
      refine w_skip ?_
      refine then_norm ?_
      refine w_seq ?_
      refine w_seq ?_
      refine w_run [0] ?_
      refine t_done [(.ptr wb0 wo1), (.int .i64 p2), (.int .i64 0), (.agg [(.int .i64 e7), (.int .i64 e8), (.int .i64 e9), (.int .i64 e10), e11]), (.bool ((e7) == 1)), .undef, (.bool ((e7) == 2)), .undef, (.int .i64 0), .undef, .undef, .undef, (.bool (decide ((IntKind.wrap .i64 (e15 - e16)) ≥ e10))), .undef] H13 (by kernel_rfl) ?_
      refine then_norm ?_
      refine w_block ?_
      obtain ⟨J26, k27, h0, h⟩ := h
      refine w_loop (I := fun mI EI HI => ∃ (d29 : AV) (i30 : Int) (d31 : AV) (d32 : AV) (d33 : AV), EI = [(.ptr wb0 wo1), (.int .i64 p2), d29, (.agg [(.int .i64 e7), (.int .i64 e8), (.int .i64 e9), (.int .i64 e10), e11]), (.bool ((e7) == 1)), .undef, (.bool ((e7) == 2)), .undef, (.int .i64 i30), d31, d32, d33, (.bool (decide ((IntKind.wrap .i64 (e15 - e16)) ≥ e10))), .undef] ∧ H13 = HI ∧ J26 mI i30) ?_ k27 ⟨_, _, _, _, _, rfl, rfl, h0⟩
      clear h0
      rintro m28 EI HI ⟨d29, i30, d31, d32, d33, rfl, rfl, hJ⟩
      replace h := h m28 i30  hJ
      clear hJ
      refine w_seq ?_
      refine w_seq ?_
      refine w_run [0, 0, 0, 1, 0] ?_
      obtain ⟨len34, hl, h⟩ := h
      refine t_len true e11 len34 H13 (by kernel_rfl) hl ?_
      refine t_done [(.ptr wb0 wo1), (.int .i64 p2), d29, (.agg [(.int .i64 e7), (.int .i64 e8), (.int .i64 e9), (.int .i64 e10), e11]), (.bool ((e7) == 1)), .undef, (.bool ((e7) == 2)), .undef, (.int .i64 i30), (.bool (decide (i30 < (len34 : Int)))), d32, d33, (.bool (decide ((IntKind.wrap .i64 (e15 - e16)) ≥ e10))), .undef] H13 (by kernel_rfl) ?_
      refine then_norm ?_
      refine w_cond (t := (decide (i30 < (len34 : Int)))) rfl (fun hc => ?_) (fun hc => ?_)
      · replace h := h.1 (is_dec.t hc)
        refine w_skip ?_
        refine then_norm ?_
        refine w_seq ?_
        refine w_block ?_
        refine w_seq ?_
        refine w_run [0, 0, 0, 1, 1, 0] ?_
        obtain ⟨e35, hg36, h⟩ := h
        refine t_idxG true 1 e11 .i64 i30 H13 (by kernel_rfl) hg36 ?_
        refine t_loadG true none 1 e11 i30 0 (.int .i64 e35) H13 (by kernel_rfl) hg36 ?_
        refine t_done [(.ptr wb0 wo1), (.int .i64 p2), d29, (.agg [(.int .i64 e7), (.int .i64 e8), (.int .i64 e9), (.int .i64 e10), e11]), (.bool ((e7) == 1)), .undef, (.bool ((e7) == 2)), .undef, (.int .i64 i30), (.bool (decide (i30 < (len34 : Int)))), (.int .i64 e35), d33, (.bool (decide ((IntKind.wrap .i64 (e15 - e16)) ≥ e10))), .undef] H13 (by kernel_rfl) ?_
        refine then_norm ?_
        refine w_seq ?_
        refine w_run [0, 0, 1, 1, 1, 1, 1, 0, 0, 1, 1, 1, 1, 0] ?_
        refine t_ptr false wb0 wo1 H13 (by kernel_rfl) ?_
        refine t_op false (.fieldAddr 2 (.loc 0)) [.ptr wb0 wo1] H13 (.ptr wb0 (wo1 + 2)) H13 (by kernel_rfl) rfl ?_
        obtain ⟨hi, h⟩ := h
        refine t_arr false 4 1 wb0 (wo1 + 2) .i64 e35 H13 (by kernel_rfl) hi ?_
        obtain ⟨e37, hl, h⟩ := h
        refine t_load false none wb0 ((wo1 + 2) + Int.toNat e35 * 1) e37 H13 (by kernel_rfl) hl ?_
        obtain ⟨len38, hl, h⟩ := h
        refine t_len false e37 len38 H13 (by kernel_rfl) hl ?_
        refine t_ptr false wb0 wo1 H13 (by kernel_rfl) ?_
        refine t_op false (.fieldAddr 6 (.loc 0)) [.ptr wb0 wo1] H13 (.ptr wb0 (wo1 + 6)) H13 (by kernel_rfl) rfl ?_
        obtain ⟨hi, h⟩ := h
        refine t_arr false 4 1 wb0 (wo1 + 6) .i64 e35 H13 (by kernel_rfl) hi ?_
        obtain ⟨e39, hl, h⟩ := h
        refine t_load false none wb0 ((wo1 + 6) + Int.toNat e35 * 1) (.int .i64 e39) H13 (by kernel_rfl) hl ?_
        refine t_done [(.ptr wb0 wo1), (.int .i64 p2), d29, (.agg [(.int .i64 e7), (.int .i64 e8), (.int .i64 e9), (.int .i64 e10), e11]), (.bool ((e7) == 1)), .undef, (.bool ((e7) == 2)), .undef, (.int .i64 i30), (.bool (decide (i30 < (len34 : Int)))), (.int .i64 e35), (.bool (decide ((len38 : Int) > e39))), (.bool (decide ((IntKind.wrap .i64 (e15 - e16)) ≥ e10))), .undef] H13 (by kernel_rfl) ?_
        refine then_norm ?_
        refine w_cond (t := (decide ((len38 : Int) > e39))) rfl (fun hc => ?_) (fun hc => ?_)
        · replace h := h.1 (is_dec.t hc)
          refine w_seq ?_
          refine w_run [0, 0] ?_
          refine t_done [(.ptr wb0 wo1), (.int .i64 p2), (.int .i64 e35), (.agg [(.int .i64 e7), (.int .i64 e8), (.int .i64 e9), (.int .i64 e10), e11]), (.bool ((e7) == 1)), .undef, (.bool ((e7) == 2)), .undef, (.int .i64 i30), (.bool (decide (i30 < (len34 : Int)))), (.int .i64 e35), (.bool (decide ((len38 : Int) > e39))), (.bool (decide ((IntKind.wrap .i64 (e15 - e16)) ≥ e10))), .undef] H13 (by kernel_rfl) ?_
          refine then_norm ?_
          refine w_ret ?_
          refine block_ret ?_
          refine then_ret ?_
          refine loop_ret ?_
          refine block_ret ?_
          refine then_ret ?_
          exact body_ret (vs := [(.int .i64 e35)]) _ (by kernel_rfl) rfl h
        · replace h := h.2 (is_dec.f hc)
          refine w_skip ?_
          refine block_norm ?_
          refine then_norm ?_
          refine w_run [0, 0, 0] ?_
          refine t_done [(.ptr wb0 wo1), (.int .i64 p2), d29, (.agg [(.int .i64 e7), (.int .i64 e8), (.int .i64 e9), (.int .i64 e10), e11]), (.bool ((e7) == 1)), .undef, (.bool ((e7) == 2)), .undef, (.int .i64 (IntKind.wrap .i64 (i30 + 1))), (.bool (decide (i30 < (len34 : Int)))), (.int .i64 e35), (.bool (decide ((len38 : Int) > e39))), (.bool (decide ((IntKind.wrap .i64 (e15 - e16)) ≥ e10))), .undef] H13 (by kernel_rfl) ?_
          obtain ⟨m', hm, h⟩ := h
          refine loop_norm ⟨m', hm, _, _, _, _, _, rfl, rfl, h⟩
      · replace h := h.2 (is_dec.f hc)
        refine w_exit ?_
        refine then_exit ?_
        refine loop_exit ?_
        refine block_exit ?_
        refine then_norm ?_
        refine w_seq ?_
        refine w_seq ?_
        refine w_run [0, 0, 0, 0, 0, 0] ?_
        refine t_done [(.ptr wb0 wo1), (.int .i64 p2), d29, (.agg [(.int .i64 e7), (.int .i64 e8), (.int .i64 e9), (.int .i64 e10), e11]), (.bool ((e7) == 1)), .undef, (.bool ((e7) == 2)), .undef, (.int .i64 i30), (.bool (decide (i30 < (len34 : Int)))), d32, d33, (.bool (decide ((IntKind.wrap .i64 (e15 - e16)) ≥ e10))), (.bool ((decide ((IntKind.wrap .i64 (e15 - e16)) ≥ e10)) && (decide (e10 ≥ 0))))] H13 (by kernel_rfl) ?_
        refine then_norm ?_
        refine w_cond (t := ((decide ((IntKind.wrap .i64 (e15 - e16)) ≥ e10)) && (decide (e10 ≥ 0)))) rfl (fun hc => ?_) (fun hc => ?_)
        · replace h := h.1 ((is_and is_dec is_dec).t hc)
          refine w_seq ?_
          refine w_run [0] ?_
          refine t_done [(.ptr wb0 wo1), (.int .i64 p2), (.int .i64 (-1)), (.agg [(.int .i64 e7), (.int .i64 e8), (.int .i64 e9), (.int .i64 e10), e11]), (.bool ((e7) == 1)), .undef, (.bool ((e7) == 2)), .undef, (.int .i64 i30), (.bool (decide (i30 < (len34 : Int)))), d32, d33, (.bool (decide ((IntKind.wrap .i64 (e15 - e16)) ≥ e10))), (.bool ((decide ((IntKind.wrap .i64 (e15 - e16)) ≥ e10)) && (decide (e10 ≥ 0))))] H13 (by kernel_rfl) ?_
          refine then_norm ?_
          refine w_ret ?_
          refine then_ret ?_
          exact body_ret (vs := [(.int .i64 (-1))]) _ (by kernel_rfl) rfl h
        · replace h := h.2 ((is_and is_dec is_dec).f hc)
          refine w_skip ?_
          refine then_norm ?_
          refine w_seq ?_
          refine w_run [0] ?_
          refine t_done [(.ptr wb0 wo1), (.int .i64 p2), (.int .i64 (-2)), (.agg [(.int .i64 e7), (.int .i64 e8), (.int .i64 e9), (.int .i64 e10), e11]), (.bool ((e7) == 1)), .undef, (.bool ((e7) == 2)), .undef, (.int .i64 i30), (.bool (decide (i30 < (len34 : Int)))), d32, d33, (.bool (decide ((IntKind.wrap .i64 (e15 - e16)) ≥ e10))), (.bool ((decide ((IntKind.wrap .i64 (e15 - e16)) ≥ e10)) && (decide (e10 ≥ 0))))] H13 (by kernel_rfl) ?_
          refine then_norm ?_
          refine w_ret ?_
          exact body_ret (vs := [(.int .i64 (-2))]) _ (by kernel_rfl) rfl h

def rf_FEqualResults : RFunc := ⟨2, 7, [.var 2],
 ((.seq (.ops [⟨.move (.k (.bool false)), none, (some 2), true⟩])
 ((.seq ((.seq (.ops [⟨.move (.var 0), none, none, true⟩, ⟨.len (.loc 0), none, none, true⟩, ⟨.move (.var 1), none, none, true⟩, ⟨.len (.loc 2), none, none, true⟩, ⟨.bin .neq .no (.loc 1) (.loc 3), none, (some 3), true⟩])
 (.cond (.var 3) ((.seq (.ops [⟨.move (.k (.bool false)), none, (some 2), true⟩])
 (.ret))) (.skip))))
 ((.seq ((.seq (.ops [⟨.move (.k (.int .i64 0)), none, (some 4), true⟩])
 (.block 0 (.loop ((.seq ((.seq (.ops [⟨.move (.var 4), none, none, true⟩, ⟨.move (.var 0), none, none, true⟩, ⟨.len (.loc 1), none, none, true⟩, ⟨.bin .lss .no (.loc 0) (.loc 2), none, (some 5), true⟩])
 (.cond (.var 5) (.skip) (.exit 0))))
 ((.seq (.block 1 ((.seq (.ops [⟨.move (.var 0), none, none, false⟩, ⟨.move (.var 4), none, none, false⟩, ⟨.indexAddr 4 (.loc 0) (.loc 1), none, none, false⟩, ⟨.load (some 4) (.loc 2), none, none, false⟩, ⟨.move (.var 1), none, none, false⟩, ⟨.move (.var 4), none, none, false⟩, ⟨.indexAddr 4 (.loc 4) (.loc 5), none, none, false⟩, ⟨.load (some 4) (.loc 6), none, none, false⟩, ⟨.bin .neq (.agg [.int, .int, .int, .int]) (.loc 3) (.loc 7), none, (some 6), true⟩])
 (.cond (.var 6) ((.seq (.ops [⟨.move (.k (.bool false)), none, (some 2), true⟩])
 (.ret))) (.skip)))))
 (.ops [⟨.move (.var 4), none, none, true⟩, ⟨.bin .add .no (.loc 0) (.k (.int .i64 1)), none, none, true⟩, ⟨.move (.loc 1), none, (some 4), true⟩])))))))))
 ((.seq (.ops [⟨.move (.k (.bool true)), none, (some 2), true⟩])
 (.ret))))))))), none⟩
theorem v_FEqualResults {F : Nat → Option RFunc} {me : Nat} (hF : F me = some (rf_FEqualResults )) {fl : Nat} {H : Heap} {Q : AV → Heap → Prop} (a0 : AV) (b1 : AV)
  (h : ∃ len2 : Nat, lenA a0 = some len2 ∧ ∃ len3 : Nat, lenA b1 = some len3 ∧ (((len2 : Int) ≠ (len3 : Int)) → Q (.bool false) H) ∧ (¬((len2 : Int) ≠ (len3 : Int)) → ∃ (J4 : Nat → Int → Prop) (k5 : Nat), J4 k5 0 ∧ (∀ (m6 : Nat) (i8 : Int), J4 m6 i8 → ∃ len11 : Nat, lenA a0 = some len11 ∧ ((i8 < (len11 : Int)) → ∃ (e12 : Int) (e13 : Int) (e14 : Int) (e15 : Int), getA H 4 (some 4) a0 i8 0 = some (.agg [(.int .i64 e12), (.int .i64 e13), (.int .i64 e14), (.int .i64 e15)]) ∧ ∃ (e17 : Int) (e18 : Int) (e19 : Int) (e20 : Int), getA H 4 (some 4) b1 i8 0 = some (.agg [(.int .i64 e17), (.int .i64 e18), (.int .i64 e19), (.int .i64 e20)]) ∧ ((¬(((e12 = e17) ∧ (((e13 = e18) ∧ (((e14 = e19) ∧ (((e15 = e20) ∧ (True)))))))))) → Q (.bool false) H) ∧ (¬(¬(((e12 = e17) ∧ (((e13 = e18) ∧ (((e14 = e19) ∧ (((e15 = e20) ∧ (True)))))))))) → ∃ m22 : Nat, m22 < m6 ∧ J4 m22 (IntKind.wrap .i64 (i8 + 1)))) ∧ (¬(i8 < (len11 : Int)) → Q (.bool true) H)))) : Ret F fl me [a0, b1] H Q := by
  refine ret_intro hF rfl ?_
  refine w_seq ?_
  refine w_run [0] ?_
  refine t_done [a0, b1, (.bool false), .undef, .undef, .undef, .undef] H (by kernel_rfl) ?_
  refine then_norm ?_
  refine w_seq ?_
  refine w_seq ?_
  refine w_run [0, 1, 0, 1, 0] ?_
  obtain ⟨len2, hl, h⟩ := h
  refine t_len true a0 len2 H (by kernel_rfl) hl ?_
  obtain ⟨len3, hl, h⟩ := h
  refine t_len true b1 len3 H (by kernel_rfl) hl ?_
  refine t_done [a0, b1, (.bool false), (.bool (((len2 : Int)) != (len3 : Int))), .undef, .undef, .undef] H (by kernel_rfl) ?_
  refine then_norm ?_
  refine w_cond (t := (((len2 : Int)) != (len3 : Int))) rfl (fun hc => ?_) (fun hc => ?_)
  · replace h := h.1 (is_ne.t hc)
    refine w_seq ?_
    refine w_run [0] ?_
    refine t_done [a0, b1, (.bool false), (.bool (((len2 : Int)) != (len3 : Int))), .undef, .undef, .undef] H (by kernel_rfl) ?_
    refine then_norm ?_
    refine w_ret ?_
    refine then_ret ?_
    exact body_ret (vs := [(.bool false)]) _ (by kernel_rfl) rfl h
  · replace h := h.2 (is_ne.f hc)
    refine w_skip ?_
    refine then_norm ?_
    refine w_seq ?_
    refine w_seq ?_
    refine w_run [0] ?_
    refine t_done [a0, b1, (.bool false), (.bool (((len2 : Int)) != (len3 : Int))), (.int .i64 0), .undef, .undef] H (by kernel_rfl) ?_
    refine then_norm ?_
    refine w_block ?_
    obtain ⟨J4, k5, h0, h⟩ := h
    refine w_loop (I := fun mI EI HI => ∃ (d7 : AV) (i8 : Int) (d9 : AV) (d10 : AV), EI = [a0, b1, d7, (.bool (((len2 : Int)) != (len3 : Int))), (.int .i64 i8), d9, d10] ∧ H = HI ∧ J4 mI i8) ?_ k5 ⟨_, _, _, _, rfl, rfl, h0⟩
    clear h0
    rintro m6 EI HI ⟨d7, i8, d9, d10, rfl, rfl, hJ⟩
    replace h := h m6 i8  hJ
    clear hJ
    refine w_seq ?_
    refine w_seq ?_
    refine w_run [0, 0, 1, 0] ?_
    obtain ⟨len11, hl, h⟩ := h
    refine t_len true a0 len11 H (by kernel_rfl) hl ?_
    refine t_done [a0, b1, d7, (.bool (((len2 : Int)) != (len3 : Int))), (.int .i64 i8), (.bool (decide (i8 < (len11 : Int)))), d10] H (by kernel_rfl) ?_
    refine then_norm ?_
    refine w_cond (t := (decide (i8 < (len11 : Int)))) rfl (fun hc => ?_) (fun hc => ?_)
    · replace h := h.1 (is_dec.t hc)
      refine w_skip ?_
      refine then_norm ?_
      refine w_seq ?_
      refine w_block ?_
      refine w_seq ?_
      refine w_run [0, 0, 1, 1, 0, 0, 1, 1, 0] ?_
      obtain ⟨e12, e13, e14, e15, hg16, h⟩ := h
      refine t_idxG false 4 a0 .i64 i8 H (by kernel_rfl) hg16 ?_
      refine t_loadG false (some 4) 4 a0 i8 0 (.agg [(.int .i64 e12), (.int .i64 e13), (.int .i64 e14), (.int .i64 e15)]) H (by kernel_rfl) hg16 ?_
      obtain ⟨e17, e18, e19, e20, hg21, h⟩ := h
      refine t_idxG false 4 b1 .i64 i8 H (by kernel_rfl) hg21 ?_
      refine t_loadG false (some 4) 4 b1 i8 0 (.agg [(.int .i64 e17), (.int .i64 e18), (.int .i64 e19), (.int .i64 e20)]) H (by kernel_rfl) hg21 ?_
      refine t_done [a0, b1, d7, (.bool (((len2 : Int)) != (len3 : Int))), (.int .i64 i8), (.bool (decide (i8 < (len11 : Int)))), (.bool (!(((e12) == e17) && (((e13) == e18) && (((e14) == e19) && (((e15) == e20) && true))))))] H (by kernel_rfl) ?_
      refine then_norm ?_
      refine w_cond (t := (!(((e12) == e17) && (((e13) == e18) && (((e14) == e19) && (((e15) == e20) && true)))))) rfl (fun hc => ?_) (fun hc => ?_)
      · replace h := h.1 ((is_not (is_and is_eq (is_and is_eq (is_and is_eq (is_and is_eq is_true))))).t hc)
        refine w_seq ?_
        refine w_run [0] ?_
        refine t_done [a0, b1, (.bool false), (.bool (((len2 : Int)) != (len3 : Int))), (.int .i64 i8), (.bool (decide (i8 < (len11 : Int)))), (.bool (!(((e12) == e17) && (((e13) == e18) && (((e14) == e19) && (((e15) == e20) && true))))))] H (by kernel_rfl) ?_
        refine then_norm ?_
        refine w_ret ?_
        refine block_ret ?_
        refine then_ret ?_
        refine loop_ret ?_
        refine block_ret ?_
        refine then_ret ?_
        exact body_ret (vs := [(.bool false)]) _ (by kernel_rfl) rfl h
      · replace h := h.2 ((is_not (is_and is_eq (is_and is_eq (is_and is_eq (is_and is_eq is_true))))).f hc)
        refine w_skip ?_
        refine block_norm ?_
        refine then_norm ?_
        refine w_run [0, 0, 0] ?_
        refine t_done [a0, b1, d7, (.bool (((len2 : Int)) != (len3 : Int))), (.int .i64 (IntKind.wrap .i64 (i8 + 1))), (.bool (decide (i8 < (len11 : Int)))), (.bool (!(((e12) == e17) && (((e13) == e18) && (((e14) == e19) && (((e15) == e20) && true))))))] H (by kernel_rfl) ?_
        obtain ⟨m', hm, h⟩ := h
        refine loop_norm ⟨m', hm, _, _, _, _, rfl, rfl, h⟩
    · replace h := h.2 (is_dec.f hc)
      refine w_exit ?_
      refine then_exit ?_
      refine loop_exit ?_
      refine block_exit ?_
      refine then_norm ?_
      refine w_seq ?_
      refine w_run [0] ?_
      refine t_done [a0, b1, (.bool true), (.bool (((len2 : Int)) != (len3 : Int))), (.int .i64 i8), (.bool (decide (i8 < (len11 : Int)))), d10] H (by kernel_rfl) ?_
      refine then_norm ?_
      refine w_ret ?_
      exact body_ret (vs := [(.bool true)]) _ (by kernel_rfl) rfl h

end Go.RM

