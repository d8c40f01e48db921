import Derived.Test.YtceemplcjkjphaaRmOpt3
/-
  Functions of the program as the abstract machine runs them, and what must be shown of a run: printed by RmPrint.
-/
namespace Go.RM
set_option linter.unusedVariables false
set_option maxRecDepth 4000
def rf_deadline_Validate (ndeadline_opCode : Nat) : RFunc := ⟨2, 26, [.part 2 (some 2)],
 ((.seq (.ops [⟨.tomb 1 (.k (.agg [.int .i64 0, .int .i64 0])), none, (some 2), true⟩])
 ((.seq (.block 0 ((.seq (.ops [⟨.move (.var 0), none, none, true⟩, ⟨.len (.loc 0), none, none, true⟩, ⟨.bin .gtr .no (.loc 1) (.k (.int .i64 4)), none, none, true⟩, ⟨.move (.loc 2), none, (some 3), true⟩])
 (.cond (.var 3) ((.seq (.ops [⟨.build [.int .i64 0, .int .i64 0] [(0, 1, (.k (.int .i64 2))), (1, 1, (.k (.int .i64 (-1))))], none, none, true⟩, ⟨.upd 2 0 (.var 2) (.loc 0), none, (some 2), true⟩])
 (.ret))) ((.seq (.ops [⟨.move (.var 1), none, none, true⟩, ⟨.len (.loc 0), none, none, true⟩, ⟨.bin .gtr .no (.loc 1) (.k (.int .i64 5)), none, none, true⟩, ⟨.move (.loc 2), none, (some 4), true⟩])
 (.cond (.var 4) ((.seq (.ops [⟨.build [.int .i64 0, .int .i64 0] [(0, 1, (.k (.int .i64 2))), (1, 1, (.k (.int .i64 (-2))))], none, none, true⟩, ⟨.upd 2 0 (.var 2) (.loc 0), none, (some 2), true⟩])
 (.ret))) (.skip))))))))
 ((.seq ((.seq (.ops [⟨.move (.var 0), none, (some 8), true⟩, ⟨.len (.loc 0), none, (some 6), true⟩, ⟨.move (.k (.int .i64 0)), none, (some 5), true⟩])
 (.block 1 (.loop ((.seq (.ops [⟨.bin .lss .no (.var 5) (.var 6), none, (some 7), true⟩])
 ((.seq (.cond (.var 7) (.skip) (.exit 1))
 ((.seq (.block 2 ((.seq (.ops [⟨.move (.var 5), none, none, true⟩, ⟨.indexAddr 1 (.var 8) (.var 5), none, none, true⟩, ⟨.load none (.loc 1), none, none, true⟩, ⟨.move (.loc 0), none, (some 11), true⟩, ⟨.move (.loc 2), none, (some 9), true⟩])
 ((.seq (.ops [⟨.move (.var 9), none, none, true⟩, ⟨.bin .lss .no (.loc 0) (.k (.int .i64 1)), none, none, true⟩, ⟨.move (.loc 1), none, none, true⟩, ⟨.move (.var 9), none, none, true⟩, ⟨.bin .gtr .no (.loc 3) (.k (.int .i64 4)), none, none, true⟩, ⟨.pick (.loc 2) (.k (.bool true)) (.loc 4), none, (some 10), true⟩])
 (.cond (.var 10) ((.seq (.ops [⟨.move (.var 11), none, none, true⟩, ⟨.bin .sub .no (.k (.int .i64 (-3))) (.loc 0), none, none, true⟩, ⟨.build [.int .i64 0, .int .i64 0] [(0, 1, (.k (.int .i64 3))), (1, 1, (.loc 1))], none, none, true⟩, ⟨.upd 2 0 (.var 2) (.loc 2), none, (some 2), true⟩])
 (.ret))) (.skip)))))))
 (.ops [⟨.bin .add .no (.var 5) (.k (.int .i64 1)), none, none, true⟩, ⟨.move (.loc 0), none, (some 5), true⟩])))))))))))
 ((.seq ((.seq (.ops [⟨.move (.var 1), none, (some 15), true⟩, ⟨.len (.loc 0), none, (some 13), true⟩, ⟨.move (.k (.int .i64 0)), none, (some 12), true⟩])
 (.block 3 (.loop ((.seq (.ops [⟨.bin .lss .no (.var 12) (.var 13), none, (some 14), true⟩])
 ((.seq (.cond (.var 14) (.skip) (.exit 3))
 ((.seq (.block 4 ((.seq (.ops [⟨.move (.var 12), none, none, true⟩, ⟨.indexAddr 1 (.var 15) (.var 12), none, none, true⟩, ⟨.load none (.loc 1), none, none, true⟩, ⟨.move (.loc 0), none, (some 18), true⟩, ⟨.move (.loc 2), none, (some 16), true⟩])
 ((.seq ((.seq (.ops [⟨.move (.var 16), none, none, true⟩, ⟨.len (.loc 0), none, none, true⟩, ⟨.bin .gtr .no (.loc 1) (.k (.int .i64 8)), none, (some 17), true⟩])
 (.cond (.var 17) ((.seq (.ops [⟨.move (.var 18), none, none, true⟩, ⟨.build [.int .i64 0, .int .i64 0] [(0, 1, (.k (.int .i64 2))), (1, 1, (.loc 0))], none, none, true⟩, ⟨.upd 2 0 (.var 2) (.loc 1), none, (some 2), true⟩])
 (.ret))) (.skip))))
 ((.seq (.ops [⟨.move (.var 16), none, (some 22), true⟩, ⟨.len (.loc 0), none, (some 20), true⟩, ⟨.move (.k (.int .i64 0)), none, (some 19), true⟩])
 (.block 5 (.loop ((.seq (.ops [⟨.bin .lss .no (.var 19) (.var 20), none, (some 21), true⟩])
 ((.seq (.cond (.var 21) (.skip) (.exit 5))
 ((.seq (.block 6 ((.seq (.ops [⟨.indexAddr 5 (.var 22) (.var 19), none, none, true⟩, ⟨.load (some 5) (.loc 0), none, none, true⟩, ⟨.tomb 1 (.k (.agg [.int .i64 0, .int .i64 0, .int .i64 0, .int .i64 0, .empty])), none, (some 23), true⟩, ⟨.upd 5 0 (.loc 2) (.loc 1), none, (some 23), true⟩])
 ((.seq (.ops [⟨.field 0 (some 5) (.var 23), none, none, true⟩, ⟨.move (.var 0), none, none, true⟩, ⟨.len (.loc 1), none, none, true⟩, ⟨.callS ndeadline_opCode [(.loc 0), (.loc 2)], none, none, true⟩, ⟨.move (.loc 3), none, (some 24), true⟩])
 ((.seq (.ops [⟨.move (.var 24), none, none, true⟩, ⟨.bin .neq .no (.loc 0) (.k (.int .i64 0)), none, (some 25), true⟩])
 (.cond (.var 25) ((.seq (.ops [⟨.move (.var 24), none, none, true⟩, ⟨.move (.var 18), none, none, true⟩, ⟨.build [.int .i64 0, .int .i64 0] [(0, 1, (.loc 0)), (1, 1, (.loc 1))], none, none, true⟩, ⟨.upd 2 0 (.var 2) (.loc 2), none, (some 2), true⟩])
 (.ret))) (.skip)))))))))
 (.ops [⟨.bin .add .no (.var 19) (.k (.int .i64 1)), none, none, true⟩, ⟨.move (.loc 0), none, (some 19), true⟩]))))))))))))))))
 (.ops [⟨.bin .add .no (.var 12) (.k (.int .i64 1)), none, none, true⟩, ⟨.move (.loc 0), none, (some 12), true⟩])))))))))))
 ((.seq (.ops [⟨.build [.int .i64 0, .int .i64 0] [], none, none, true⟩, ⟨.upd 2 0 (.var 2) (.loc 0), none, (some 2), true⟩])
 (.ret))))))))))), none⟩
theorem v_deadline_Validate {F : Nat → Option RFunc} {me ndeadline_opCode : Nat} (hF : F me = some (rf_deadline_Validate ndeadline_opCode)) {fl : Nat} {H : Heap} {Q : AV → Heap → Prop} (capacities0 : AV) (scripts1 : AV)
  (h : ∀ (H2 : Heap), Dead1 H 1 H2 → ∃ len3 : Nat, lenA capacities0 = some len3 ∧ (((len3 : Int) > 4) → Q (.agg [(.int .i64 2), (.int .i64 (-1))]) H2) ∧ (¬((len3 : Int) > 4) → ∃ len4 : Nat, lenA scripts1 = some len4 ∧ (((len4 : Int) > 5) → Q (.agg [(.int .i64 2), (.int .i64 (-2))]) H2) ∧ (¬((len4 : Int) > 5) → ∃ len5 : Nat, lenA capacities0 = some len5 ∧ ∃ (J6 : Nat → Int → Int → Int → Prop) (k7 : Nat), J6 k7 0 0 0 ∧ (∀ (m8 : Nat) (v9 : Int) (v10 : Int) (v11 : Int), J6 m8 v9 v10 v11 → ((v11 < (len5 : Int)) → ∃ (e16 : Int), getA H2 1 none capacities0 v11 0 = some (.int .i64 e16) ∧ ((((e16 < 1) ∨ (e16 > 4))) → Q (.agg [(.int .i64 3), (.int .i64 (IntKind.wrap .i64 ((-3) - v11)))]) H2) ∧ (¬(((e16 < 1) ∨ (e16 > 4))) → ∃ m18 : Nat, m18 < m8 ∧ J6 m18 v9 v10 (IntKind.wrap .i64 (v11 + 1)))) ∧ (¬(v11 < (len5 : Int)) → ∃ len19 : Nat, lenA scripts1 = some len19 ∧ ∃ (J20 : Nat → Int → Int → Int → Heap → Prop) (k21 : Nat), J20 k21 v9 v10 0 H2 ∧ (∀ (m22 : Nat) (v23 : Int) (v24 : Int) (v25 : Int) (H37 : Heap), J20 m22 v23 v24 v25 H37 → ((v25 < (len19 : Int)) → ∃ (e38 : AV), getA H37 1 none scripts1 v25 0 = some e38 ∧ ∃ len40 : Nat, lenA e38 = some len40 ∧ (((len40 : Int) > 8) → Q (.agg [(.int .i64 2), (.int .i64 v25)]) H37) ∧ (¬((len40 : Int) > 8) → ∃ len41 : Nat, lenA e38 = some len41 ∧ ∃ (J42 : Nat → Int → Int → Int → Heap → Prop) (k43 : Nat), J42 k43 v23 v24 0 H37 ∧ (∀ (m44 : Nat) (v45 : Int) (v46 : Int) (v47 : Int) (H52 : Heap), J42 m44 v45 v46 v47 H52 → ((v47 < (len41 : Int)) → ∃ (e53 : Int) (e54 : Int) (e55 : Int) (e56 : Int) (e57 : AV), getA H52 5 (some 5) e38 v47 0 = some (.agg [(.int .i64 e53), (.int .i64 e54), (.int .i64 e55), (.int .i64 e56), e57]) ∧ ∀ (H59 : Heap), Dead1 H52 1 H59 → Scal e57 ∧ ∃ len61 : Nat, lenA capacities0 = some len61 ∧ Ret F fl ndeadline_opCode [(.agg [(.int .i64 e53), (.int .i64 e54), (.int .i64 e55), (.int .i64 e56), e57]), (.int .i64 (len61 : Int))] H59 (fun v64 H63 => ∃ (r62 : Int), v64 = (.int .i64 r62) ∧ ((r62 ≠ 0) → Q (.agg [(.int .i64 r62), (.int .i64 v25)]) H63) ∧ (¬(r62 ≠ 0) → ∃ m65 : Nat, m65 < m44 ∧ J42 m65 v45 v46 (IntKind.wrap .i64 (v47 + 1)) H63))) ∧ (¬(v47 < (len41 : Int)) → ∃ m66 : Nat, m66 < m22 ∧ J20 m66 v45 v46 (IntKind.wrap .i64 (v25 + 1)) H52)))) ∧ (¬(v25 < (len19 : Int)) → Q (.agg [(.int .i64 0), (.int .i64 0)]) H37))))))) : Ret F fl me [capacities0, scripts1] H Q := by
  refine ret_intro hF rfl ?_
  refine w_seq ?_
  refine w_run [1] ?_
  obtain ⟨H2, hb⟩ : ∃ H', Dead1 H 1 H' := ⟨_, ⟨rfl⟩⟩
  replace h := h H2 hb
  refine t_tomb true 1 (.agg [(.int .i64 0), (.int .i64 0)]) [(.int .i64 0), (.int .i64 0)] H2 H (by kernel_rfl) rfl hb ?_
  refine t_done [capacities0, scripts1, (.agg [(.int .i64 0), (.int .i64 0)]), .undef, .undef, .undef, .undef, .undef, .undef, .undef, .undef, .undef, .undef, .undef, .undef, .undef, .undef, .undef, .undef, .undef, .undef, .undef, .undef, .undef, .undef, .undef] H2 (by kernel_rfl) ?_
  refine then_norm ?_
  refine w_seq ?_
  refine w_block ?_
  refine w_seq ?_
  refine w_run [0, 1, 0, 0] ?_
  obtain ⟨len3, hl, h⟩ := h
  refine t_len true capacities0 len3 H2 (by kernel_rfl) hl ?_
  refine t_done [capacities0, scripts1, (.agg [(.int .i64 0), (.int .i64 0)]), (.bool (decide ((len3 : Int) > 4))), .undef, .undef, .undef, .undef, .undef, .undef, .undef, .undef, .undef, .undef, .undef, .undef, .undef, .undef, .undef, .undef, .undef, .undef, .undef, .undef, .undef, .undef] H2 (by kernel_rfl) ?_
  refine then_norm ?_
  refine w_cond (t := (decide ((len3 : Int) > 4))) rfl (fun hc => ?_) (fun hc => ?_)
  · replace h := h.1 (is_dec.t hc)
    refine w_seq ?_
    refine w_run [1, 1] ?_
    refine t_build true [(.int .i64 0), (.int .i64 0)] [(0, 1, .loc 0), (1, 1, .loc 1)] [(.int .i64 2), (.int .i64 (-1))] [(.int .i64 2), (.int .i64 (-1))] H2 (by kernel_rfl) (fill_c (vs := [(.int .i64 2)]) (size := 1) rfl (by kernel_rfl) (by kernel_rfl) (fill_c (vs := [(.int .i64 (-1))]) (size := 1) rfl (by kernel_rfl) (by kernel_rfl) (by kernel_rfl))) ?_
    refine t_upd true 2 0 [(.int .i64 0), (.int .i64 0)] (.agg [(.int .i64 2), (.int .i64 (-1))]) [(.int .i64 2), (.int .i64 (-1))] [(.int .i64 2), (.int .i64 (-1))] H2 (by kernel_rfl) rfl (all_c rfl (all_c rfl all_n)) ⟨rfl, Nat.le_of_ble_eq_true (by kernel_rfl), rfl⟩ ?_
    refine t_done [capacities0, scripts1, (.agg [(.int .i64 2), (.int .i64 (-1))]), (.bool (decide ((len3 : Int) > 4))), .undef, .undef, .undef, .undef, .undef, .undef, .undef, .undef, .undef, .undef, .undef, .undef, .undef, .undef, .undef, .undef, .undef, .undef, .undef, .undef, .undef, .undef] H2 (by kernel_rfl) ?_
    refine then_norm ?_
    refine w_ret ?_
    refine block_ret ?_
    refine then_ret ?_
    exact body_ret (vs := [(.agg [(.int .i64 2), (.int .i64 (-1))])]) _ (by kernel_rfl) rfl h
  · replace h := h.2 (is_dec.f hc)
    refine w_seq ?_
    refine w_run [0, 1, 0, 0] ?_
    obtain ⟨len4, hl, h⟩ := h
    refine t_len true scripts1 len4 H2 (by kernel_rfl) hl ?_
    refine t_done [capacities0, scripts1, (.agg [(.int .i64 0), (.int .i64 0)]), (.bool (decide ((len3 : Int) > 4))), (.bool (decide ((len4 : Int) > 5))), .undef, .undef, .undef, .undef, .undef, .undef, .undef, .undef, .undef, .undef, .undef, .undef, .undef, .undef, .undef, .undef, .undef, .undef, .undef, .undef, .undef] H2 (by kernel_rfl) ?_
    refine then_norm ?_
    refine w_cond (t := (decide ((len4 : Int) > 5))) rfl (fun hc => ?_) (fun hc => ?_)
    · replace h := h.1 (is_dec.t hc)
      refine w_seq ?_
      refine w_run [1, 1] ?_
      refine t_build true [(.int .i64 0), (.int .i64 0)] [(0, 1, .loc 0), (1, 1, .loc 1)] [(.int .i64 2), (.int .i64 (-2))] [(.int .i64 2), (.int .i64 (-2))] H2 (by kernel_rfl) (fill_c (vs := [(.int .i64 2)]) (size := 1) rfl (by kernel_rfl) (by kernel_rfl) (fill_c (vs := [(.int .i64 (-2))]) (size := 1) rfl (by kernel_rfl) (by kernel_rfl) (by kernel_rfl))) ?_
      refine t_upd true 2 0 [(.int .i64 0), (.int .i64 0)] (.agg [(.int .i64 2), (.int .i64 (-2))]) [(.int .i64 2), (.int .i64 (-2))] [(.int .i64 2), (.int .i64 (-2))] H2 (by kernel_rfl) rfl (all_c rfl (all_c rfl all_n)) ⟨rfl, Nat.le_of_ble_eq_true (by kernel_rfl), rfl⟩ ?_
      refine t_done [capacities0, scripts1, (.agg [(.int .i64 2), (.int .i64 (-2))]), (.bool (decide ((len3 : Int) > 4))), (.bool (decide ((len4 : Int) > 5))), .undef, .undef, .undef, .undef, .undef, .undef, .undef, .undef, .undef, .undef, .undef, .undef, .undef, .undef, .undef, .undef, .undef, .undef, .undef, .undef, .undef] H2 (by kernel_rfl) ?_
      refine then_norm ?_
      refine w_ret ?_
      refine block_ret ?_
      refine then_ret ?_
      exact body_ret (vs := [(.agg [(.int .i64 2), (.int .i64 (-2))])]) _ (by kernel_rfl) rfl h
    · replace h := h.2 (is_dec.f hc)
      refine w_skip ?_
      refine block_norm ?_
      refine then_norm ?_
      refine w_seq ?_
      refine w_seq ?_
      refine w_run [0, 1, 0] ?_
      obtain ⟨len5, hl, h⟩ := h
      refine t_len true capacities0 len5 H2 (by kernel_rfl) hl ?_
      refine t_done [capacities0, scripts1, (.agg [(.int .i64 0), (.int .i64 0)]), (.bool (decide ((len3 : Int) > 4))), (.bool (decide ((len4 : Int) > 5))), (.int .i64 0), (.int .i64 (len5 : Int)), .undef, capacities0, .undef, .undef, .undef, .undef, .undef, .undef, .undef, .undef, .undef, .undef, .undef, .undef, .undef, .undef, .undef, .undef, .undef] H2 (by kernel_rfl) ?_
      refine then_norm ?_
      refine w_block ?_
      obtain ⟨J6, k7, h0, h⟩ := h
      refine w_loop (I := fun mI EI HI => ∃ (v9 : Int) (v10 : Int) (v11 : Int) (d12 : AV) (d13 : AV) (d14 : AV) (d15 : AV), EI = [capacities0, scripts1, (.agg [(.int .i64 v9), (.int .i64 v10)]), (.bool (decide ((len3 : Int) > 4))), (.bool (decide ((len4 : Int) > 5))), (.int .i64 v11), (.int .i64 (len5 : Int)), d12, capacities0, d13, d14, d15, .undef, .undef, .undef, .undef, .undef, .undef, .undef, .undef, .undef, .undef, .undef, .undef, .undef, .undef] ∧ H2 = HI ∧ J6 mI v9 v10 v11) ?_ k7 ⟨_, _, _, _, _, _, _, rfl, rfl, h0⟩
      clear h0
      rintro m8 EI HI ⟨v9, v10, v11, d12, d13, d14, d15, rfl, rfl, hJ⟩
      replace h := h m8 v9 v10 v11  hJ
      clear hJ
      refine w_seq ?_
      refine w_run [0] ?_
      refine t_done [capacities0, scripts1, (.agg [(.int .i64 v9), (.int .i64 v10)]), (.bool (decide ((len3 : Int) > 4))), (.bool (decide ((len4 : Int) > 5))), (.int .i64 v11), (.int .i64 (len5 : Int)), (.bool (decide (v11 < (len5 : Int)))), capacities0, d13, d14, d15, .undef, .undef, .undef, .undef, .undef, .undef, .undef, .undef, .undef, .undef, .undef, .undef, .undef, .undef] H2 (by kernel_rfl) ?_
      refine then_norm ?_
      refine w_seq ?_
      refine w_cond (t := (decide (v11 < (len5 : Int)))) rfl (fun hc => ?_) (fun hc => ?_)
      · replace h := h.1 (is_dec.t hc)
        refine w_skip ?_
        refine then_norm ?_
        refine w_seq ?_
        refine w_block ?_
        refine w_seq ?_
        refine w_run [0, 1, 1, 0, 0] ?_
        obtain ⟨e16, hg17, h⟩ := h
        refine t_idxG true 1 capacities0 .i64 v11 H2 (by kernel_rfl) hg17 ?_
        refine t_loadG true none 1 capacities0 v11 0 (.int .i64 e16) H2 (by kernel_rfl) hg17 ?_
        refine t_done [capacities0, scripts1, (.agg [(.int .i64 v9), (.int .i64 v10)]), (.bool (decide ((len3 : Int) > 4))), (.bool (decide ((len4 : Int) > 5))), (.int .i64 v11), (.int .i64 (len5 : Int)), (.bool (decide (v11 < (len5 : Int)))), capacities0, (.int .i64 e16), d14, (.int .i64 v11), .undef, .undef, .undef, .undef, .undef, .undef, .undef, .undef, .undef, .undef, .undef, .undef, .undef, .undef] H2 (by kernel_rfl) ?_
        refine then_norm ?_
        refine w_seq ?_
        refine w_run [0, 0, 0, 0, 0, 0] ?_
        refine t_done [capacities0, scripts1, (.agg [(.int .i64 v9), (.int .i64 v10)]), (.bool (decide ((len3 : Int) > 4))), (.bool (decide ((len4 : Int) > 5))), (.int .i64 v11), (.int .i64 (len5 : Int)), (.bool (decide (v11 < (len5 : Int)))), capacities0, (.int .i64 e16), (.bool ((decide (e16 < 1)) || (decide (e16 > 4)))), (.int .i64 v11), .undef, .undef, .undef, .undef, .undef, .undef, .undef, .undef, .undef, .undef, .undef, .undef, .undef, .undef] H2 (by kernel_rfl) ?_
        refine then_norm ?_
        refine w_cond (t := ((decide (e16 < 1)) || (decide (e16 > 4)))) rfl (fun hc => ?_) (fun hc => ?_)
        · replace h := h.1 ((is_or is_dec is_dec).t hc)
          refine w_seq ?_
          refine w_run [0, 0, 1, 1] ?_
          refine t_build true [(.int .i64 0), (.int .i64 0)] [(0, 1, .loc 0), (1, 1, .loc 1)] [(.int .i64 3), (.int .i64 (IntKind.wrap .i64 ((-3) - v11)))] [(.int .i64 3), (.int .i64 (IntKind.wrap .i64 ((-3) - v11)))] H2 (by kernel_rfl) (fill_c (vs := [(.int .i64 3)]) (size := 1) rfl (by kernel_rfl) (by kernel_rfl) (fill_c (vs := [(.int .i64 (IntKind.wrap .i64 ((-3) - v11)))]) (size := 1) rfl (by kernel_rfl) (by kernel_rfl) (by kernel_rfl))) ?_
          refine t_upd true 2 0 [(.int .i64 v9), (.int .i64 v10)] (.agg [(.int .i64 3), (.int .i64 (IntKind.wrap .i64 ((-3) - v11)))]) [(.int .i64 3), (.int .i64 (IntKind.wrap .i64 ((-3) - v11)))] [(.int .i64 3), (.int .i64 (IntKind.wrap .i64 ((-3) - v11)))] H2 (by kernel_rfl) rfl (all_c rfl (all_c rfl all_n)) ⟨rfl, Nat.le_of_ble_eq_true (by kernel_rfl), rfl⟩ ?_
          refine t_done [capacities0, scripts1, (.agg [(.int .i64 3), (.int .i64 (IntKind.wrap .i64 ((-3) - v11)))]), (.bool (decide ((len3 : Int) > 4))), (.bool (decide ((len4 : Int) > 5))), (.int .i64 v11), (.int .i64 (len5 : Int)), (.bool (decide (v11 < (len5 : Int)))), capacities0, (.int .i64 e16), (.bool ((decide (e16 < 1)) || (decide (e16 > 4)))), (.int .i64 v11), .undef, .undef, .undef, .undef, .undef, .undef, .undef, .undef, .undef, .undef, .undef, .undef, .undef, .undef] H2 (by kernel_rfl) ?_
          refine then_norm ?_
          refine w_ret ?_
          refine block_ret ?_
          refine then_ret ?_
          refine loop_ret ?_
          refine block_ret ?_
          refine then_ret ?_
          exact body_ret (vs := [(.agg [(.int .i64 3), (.int .i64 (IntKind.wrap .i64 ((-3) - v11)))])]) _ (by kernel_rfl) rfl h
        · replace h := h.2 ((is_or is_dec is_dec).f hc)
          refine w_skip ?_
          refine block_norm ?_
          refine then_norm ?_
          refine w_run [0, 0] ?_
          refine t_done [capacities0, scripts1, (.agg [(.int .i64 v9), (.int .i64 v10)]), (.bool (decide ((len3 : Int) > 4))), (.bool (decide ((len4 : Int) > 5))), (.int .i64 (IntKind.wrap .i64 (v11 + 1))), (.int .i64 (len5 : Int)), (.bool (decide (v11 < (len5 : Int)))), capacities0, (.int .i64 e16), (.bool ((decide (e16 < 1)) || (decide (e16 > 4)))), (.int .i64 v11), .undef, .undef, .undef, .undef, .undef, .undef, .undef, .undef, .undef, .undef, .undef, .undef, .undef, .undef] H2 (by kernel_rfl) ?_
          obtain ⟨m', hm, h⟩ := h
          refine loop_norm ⟨m', hm, _, _, _, _, _, _, _, rfl, rfl, h⟩
      · replace h := h.2 (is_dec.f hc)
        refine w_exit ?_
        refine then_exit ?_
        refine loop_exit ?_
        refine block_exit ?_
        refine then_norm ?_
        refine w_seq ?_
        refine w_seq ?_
        refine w_run [0, 1, 0] ?_
        obtain ⟨len19, hl, h⟩ := h
        refine t_len true scripts1 len19 H2 (by kernel_rfl) hl ?_
        refine t_done [capacities0, scripts1, (.agg [(.int .i64 v9), (.int .i64 v10)]), (.bool (decide ((len3 : Int) > 4))), (.bool (decide ((len4 : Int) > 5))), (.int .i64 v11), (.int .i64 (len5 : Int)), (.bool (decide (v11 < (len5 : Int)))), capacities0, d13, d14, d15, (.int .i64 0), (.int .i64 (len19 : Int)), .undef, scripts1, .undef, .undef, .undef, .undef, .undef, .undef, .undef, .undef, .undef, .undef] H2 (by kernel_rfl) ?_
        refine then_norm ?_
        refine w_block ?_
        obtain ⟨J20, k21, h0, h⟩ := h
        refine w_loop (I := fun mI EI HI => ∃ (v23 : Int) (v24 : Int) (v25 : Int) (d26 : AV) (d27 : AV) (d28 : AV) (d29 : AV) (d30 : AV) (d31 : AV) (d32 : AV) (d33 : AV) (d34 : AV) (d35 : AV) (d36 : AV), EI = [capacities0, scripts1, (.agg [(.int .i64 v23), (.int .i64 v24)]), (.bool (decide ((len3 : Int) > 4))), (.bool (decide ((len4 : Int) > 5))), (.int .i64 v11), (.int .i64 (len5 : Int)), (.bool (decide (v11 < (len5 : Int)))), capacities0, d13, d14, d15, (.int .i64 v25), (.int .i64 (len19 : Int)), d26, scripts1, d27, d28, d29, d30, d31, d32, d33, d34, d35, d36] ∧ J20 mI v23 v24 v25 HI) ?_ k21 ⟨_, _, _, _, _, _, _, _, _, _, _, _, _, _, rfl, h0⟩
        clear h0
        rintro m22 EI H37 ⟨v23, v24, v25, d26, d27, d28, d29, d30, d31, d32, d33, d34, d35, d36, rfl, hJ⟩
        replace h := h m22 v23 v24 v25 H37 hJ
        clear hJ
        refine w_seq ?_
        refine w_run [0] ?_
        refine t_done [capacities0, scripts1, (.agg [(.int .i64 v23), (.int .i64 v24)]), (.bool (decide ((len3 : Int) > 4))), (.bool (decide ((len4 : Int) > 5))), (.int .i64 v11), (.int .i64 (len5 : Int)), (.bool (decide (v11 < (len5 : Int)))), capacities0, d13, d14, d15, (.int .i64 v25), (.int .i64 (len19 : Int)), (.bool (decide (v25 < (len19 : Int)))), scripts1, d27, d28, d29, d30, d31, d32, d33, d34, d35, d36] H37 (by kernel_rfl) ?_
        refine then_norm ?_
        refine w_seq ?_
        refine w_cond (t := (decide (v25 < (len19 : Int)))) rfl (fun hc => ?_) (fun hc => ?_)
        · replace h := h.1 (is_dec.t hc)
          refine w_skip ?_
          refine then_norm ?_
          refine w_seq ?_
          refine w_block ?_
          refine w_seq ?_
          refine w_run [0, 1, 1, 0, 0] ?_
          obtain ⟨e38, hg39, h⟩ := h
          refine t_idxG true 1 scripts1 .i64 v25 H37 (by kernel_rfl) hg39 ?_
          refine t_loadG true none 1 scripts1 v25 0 e38 H37 (by kernel_rfl) hg39 ?_
          refine t_done [capacities0, scripts1, (.agg [(.int .i64 v23), (.int .i64 v24)]), (.bool (decide ((len3 : Int) > 4))), (.bool (decide ((len4 : Int) > 5))), (.int .i64 v11), (.int .i64 (len5 : Int)), (.bool (decide (v11 < (len5 : Int)))), capacities0, d13, d14, d15, (.int .i64 v25), (.int .i64 (len19 : Int)), (.bool (decide (v25 < (len19 : Int)))), scripts1, e38, d28, (.int .i64 v25), d30, d31, d32, d33, d34, d35, d36] H37 (by kernel_rfl) ?_
          refine then_norm ?_
          refine w_seq ?_
          refine w_seq ?_
          refine w_run [0, 1, 0] ?_
          obtain ⟨len40, hl, h⟩ := h
          refine t_len true e38 len40 H37 (by kernel_rfl) hl ?_
          refine t_done [capacities0, scripts1, (.agg [(.int .i64 v23), (.int .i64 v24)]), (.bool (decide ((len3 : Int) > 4))), (.bool (decide ((len4 : Int) > 5))), (.int .i64 v11), (.int .i64 (len5 : Int)), (.bool (decide (v11 < (len5 : Int)))), capacities0, d13, d14, d15, (.int .i64 v25), (.int .i64 (len19 : Int)), (.bool (decide (v25 < (len19 : Int)))), scripts1, e38, (.bool (decide ((len40 : Int) > 8))), (.int .i64 v25), d30, d31, d32, d33, d34, d35, d36] H37 (by kernel_rfl) ?_
          refine then_norm ?_
          refine w_cond (t := (decide ((len40 : Int) > 8))) rfl (fun hc => ?_) (fun hc => ?_)
          · replace h := h.1 (is_dec.t hc)
            refine w_seq ?_
            refine w_run [0, 1, 1] ?_
            refine t_build true [(.int .i64 0), (.int .i64 0)] [(0, 1, .loc 0), (1, 1, .loc 1)] [(.int .i64 2), (.int .i64 v25)] [(.int .i64 2), (.int .i64 v25)] H37 (by kernel_rfl) (fill_c (vs := [(.int .i64 2)]) (size := 1) rfl (by kernel_rfl) (by kernel_rfl) (fill_c (vs := [(.int .i64 v25)]) (size := 1) rfl (by kernel_rfl) (by kernel_rfl) (by kernel_rfl))) ?_
            refine t_upd true 2 0 [(.int .i64 v23), (.int .i64 v24)] (.agg [(.int .i64 2), (.int .i64 v25)]) [(.int .i64 2), (.int .i64 v25)] [(.int .i64 2), (.int .i64 v25)] H37 (by kernel_rfl) rfl (all_c rfl (all_c rfl all_n)) ⟨rfl, Nat.le_of_ble_eq_true (by kernel_rfl), rfl⟩ ?_
            refine t_done [capacities0, scripts1, (.agg [(.int .i64 2), (.int .i64 v25)]), (.bool (decide ((len3 : Int) > 4))), (.bool (decide ((len4 : Int) > 5))), (.int .i64 v11), (.int .i64 (len5 : Int)), (.bool (decide (v11 < (len5 : Int)))), capacities0, d13, d14, d15, (.int .i64 v25), (.int .i64 (len19 : Int)), (.bool (decide (v25 < (len19 : Int)))), scripts1, e38, (.bool (decide ((len40 : Int) > 8))), (.int .i64 v25), d30, d31, d32, d33, d34, d35, d36] H37 (by kernel_rfl) ?_
            refine then_norm ?_
            refine w_ret ?_
            refine then_ret ?_
            refine block_ret ?_
            refine then_ret ?_
            refine loop_ret ?_
            refine block_ret ?_
            refine then_ret ?_
            exact body_ret (vs := [(.agg [(.int .i64 2), (.int .i64 v25)])]) _ (by kernel_rfl) rfl h
          · replace h := h.2 (is_dec.f hc)
            refine w_skip ?_
            refine then_norm ?_
            refine w_seq ?_
            refine w_run [0, 1, 0] ?_
            obtain ⟨len41, hl, h⟩ := h
            refine t_len true e38 len41 H37 (by kernel_rfl) hl ?_
            refine t_done [capacities0, scripts1, (.agg [(.int .i64 v23), (.int .i64 v24)]), (.bool (decide ((len3 : Int) > 4))), (.bool (decide ((len4 : Int) > 5))), (.int .i64 v11), (.int .i64 (len5 : Int)), (.bool (decide (v11 < (len5 : Int)))), capacities0, d13, d14, d15, (.int .i64 v25), (.int .i64 (len19 : Int)), (.bool (decide (v25 < (len19 : Int)))), scripts1, e38, (.bool (decide ((len40 : Int) > 8))), (.int .i64 v25), (.int .i64 0), (.int .i64 (len41 : Int)), d32, e38, d34, d35, d36] H37 (by kernel_rfl) ?_
            refine then_norm ?_
            refine w_block ?_
            obtain ⟨J42, k43, h0, h⟩ := h
            refine w_loop (I := fun mI EI HI => ∃ (v45 : Int) (v46 : Int) (v47 : Int) (d48 : AV) (d49 : AV) (d50 : AV) (d51 : AV), EI = [capacities0, scripts1, (.agg [(.int .i64 v45), (.int .i64 v46)]), (.bool (decide ((len3 : Int) > 4))), (.bool (decide ((len4 : Int) > 5))), (.int .i64 v11), (.int .i64 (len5 : Int)), (.bool (decide (v11 < (len5 : Int)))), capacities0, d13, d14, d15, (.int .i64 v25), (.int .i64 (len19 : Int)), (.bool (decide (v25 < (len19 : Int)))), scripts1, e38, (.bool (decide ((len40 : Int) > 8))), (.int .i64 v25), (.int .i64 v47), (.int .i64 (len41 : Int)), d48, e38, d49, d50, d51] ∧ J42 mI v45 v46 v47 HI) ?_ k43 ⟨_, _, _, _, _, _, _, rfl, h0⟩
            clear h0
            rintro m44 EI H52 ⟨v45, v46, v47, d48, d49, d50, d51, rfl, hJ⟩
            replace h := h m44 v45 v46 v47 H52 hJ
            clear hJ
            refine w_seq ?_
            refine w_run [0] ?_
            refine t_done [capacities0, scripts1, (.agg [(.int .i64 v45), (.int .i64 v46)]), (.bool (decide ((len3 : Int) > 4))), (.bool (decide ((len4 : Int) > 5))), (.int .i64 v11), (.int .i64 (len5 : Int)), (.bool (decide (v11 < (len5 : Int)))), capacities0, d13, d14, d15, (.int .i64 v25), (.int .i64 (len19 : Int)), (.bool (decide (v25 < (len19 : Int)))), scripts1, e38, (.bool (decide ((len40 : Int) > 8))), (.int .i64 v25), (.int .i64 v47), (.int .i64 (len41 : Int)), (.bool (decide (v47 < (len41 : Int)))), e38, d49, d50, d51] H52 (by kernel_rfl) ?_
            refine then_norm ?_
            refine w_seq ?_
            refine w_cond (t := (decide (v47 < (len41 : Int)))) rfl (fun hc => ?_) (fun hc => ?_)
            · replace h := h.1 (is_dec.t hc)
              refine w_skip ?_
              refine then_norm ?_
              refine w_seq ?_
              refine w_block ?_
              refine w_seq ?_
              refine w_run [1, 1, 1, 1] ?_
              obtain ⟨e53, e54, e55, e56, e57, hg58, h⟩ := h
              refine t_idxG true 5 e38 .i64 v47 H52 (by kernel_rfl) hg58 ?_
              refine t_loadG true (some 5) 5 e38 v47 0 (.agg [(.int .i64 e53), (.int .i64 e54), (.int .i64 e55), (.int .i64 e56), e57]) H52 (by kernel_rfl) hg58 ?_
              obtain ⟨H59, hb⟩ : ∃ H', Dead1 H52 1 H' := ⟨_, ⟨rfl⟩⟩
              replace h := h H59 hb
              refine t_tomb true 1 (.agg [(.int .i64 0), (.int .i64 0), (.int .i64 0), (.int .i64 0), .empty]) [(.int .i64 0), (.int .i64 0), (.int .i64 0), (.int .i64 0), .empty] H59 H52 (by kernel_rfl) rfl hb ?_
              obtain ⟨hs60, h⟩ := h
              refine t_upd true 5 0 [(.int .i64 0), (.int .i64 0), (.int .i64 0), (.int .i64 0), .empty] (.agg [(.int .i64 e53), (.int .i64 e54), (.int .i64 e55), (.int .i64 e56), e57]) [(.int .i64 e53), (.int .i64 e54), (.int .i64 e55), (.int .i64 e56), e57] [(.int .i64 e53), (.int .i64 e54), (.int .i64 e55), (.int .i64 e56), e57] H59 (by kernel_rfl) rfl (all_c rfl (all_c rfl (all_c rfl (all_c rfl (all_c hs60.2 all_n))))) ⟨rfl, Nat.le_of_ble_eq_true (by kernel_rfl), rfl⟩ ?_
              refine t_done [capacities0, scripts1, (.agg [(.int .i64 v45), (.int .i64 v46)]), (.bool (decide ((len3 : Int) > 4))), (.bool (decide ((len4 : Int) > 5))), (.int .i64 v11), (.int .i64 (len5 : Int)), (.bool (decide (v11 < (len5 : Int)))), capacities0, d13, d14, d15, (.int .i64 v25), (.int .i64 (len19 : Int)), (.bool (decide (v25 < (len19 : Int)))), scripts1, e38, (.bool (decide ((len40 : Int) > 8))), (.int .i64 v25), (.int .i64 v47), (.int .i64 (len41 : Int)), (.bool (decide (v47 < (len41 : Int)))), e38, (.agg [(.int .i64 e53), (.int .i64 e54), (.int .i64 e55), (.int .i64 e56), e57]), d50, d51] H59 (by kernel_rfl) ?_
              refine then_norm ?_
              refine w_seq ?_
              refine w_run [0, 0, 1, 1, 0] ?_
              obtain ⟨len61, hl, h⟩ := h
              refine t_len true capacities0 len61 H59 (by kernel_rfl) hl ?_
              refine t_call true ndeadline_opCode [(.agg [(.int .i64 e53), (.int .i64 e54), (.int .i64 e55), (.int .i64 e56), e57]), (.int .i64 (len61 : Int))] H59 (by kernel_rfl) h ?_
              clear h
              rintro _ H63 ⟨r62, rfl, h⟩
              refine t_done [capacities0, scripts1, (.agg [(.int .i64 v45), (.int .i64 v46)]), (.bool (decide ((len3 : Int) > 4))), (.bool (decide ((len4 : Int) > 5))), (.int .i64 v11), (.int .i64 (len5 : Int)), (.bool (decide (v11 < (len5 : Int)))), capacities0, d13, d14, d15, (.int .i64 v25), (.int .i64 (len19 : Int)), (.bool (decide (v25 < (len19 : Int)))), scripts1, e38, (.bool (decide ((len40 : Int) > 8))), (.int .i64 v25), (.int .i64 v47), (.int .i64 (len41 : Int)), (.bool (decide (v47 < (len41 : Int)))), e38, (.agg [(.int .i64 e53), (.int .i64 e54), (.int .i64 e55), (.int .i64 e56), e57]), (.int .i64 r62), d51] H63 (by kernel_rfl) ?_
              refine then_norm ?_
              refine w_seq ?_
              refine w_run [0, 0] ?_
              refine t_done [capacities0, scripts1, (.agg [(.int .i64 v45), (.int .i64 v46)]), (.bool (decide ((len3 : Int) > 4))), (.bool (decide ((len4 : Int) > 5))), (.int .i64 v11), (.int .i64 (len5 : Int)), (.bool (decide (v11 < (len5 : Int)))), capacities0, d13, d14, d15, (.int .i64 v25), (.int .i64 (len19 : Int)), (.bool (decide (v25 < (len19 : Int)))), scripts1, e38, (.bool (decide ((len40 : Int) > 8))), (.int .i64 v25), (.int .i64 v47), (.int .i64 (len41 : Int)), (.bool (decide (v47 < (len41 : Int)))), e38, (.agg [(.int .i64 e53), (.int .i64 e54), (.int .i64 e55), (.int .i64 e56), e57]), (.int .i64 r62), (.bool ((r62) != 0))] H63 (by kernel_rfl) ?_
              refine then_norm ?_
              refine w_cond (t := ((r62) != 0)) rfl (fun hc => ?_) (fun hc => ?_)
              · replace h := h.1 (is_ne.t hc)
                refine w_seq ?_
                refine w_run [0, 0, 1, 1] ?_
                refine t_build true [(.int .i64 0), (.int .i64 0)] [(0, 1, .loc 0), (1, 1, .loc 1)] [(.int .i64 r62), (.int .i64 v25)] [(.int .i64 r62), (.int .i64 v25)] H63 (by kernel_rfl) (fill_c (vs := [(.int .i64 r62)]) (size := 1) rfl (by kernel_rfl) (by kernel_rfl) (fill_c (vs := [(.int .i64 v25)]) (size := 1) rfl (by kernel_rfl) (by kernel_rfl) (by kernel_rfl))) ?_
                refine t_upd true 2 0 [(.int .i64 v45), (.int .i64 v46)] (.agg [(.int .i64 r62), (.int .i64 v25)]) [(.int .i64 r62), (.int .i64 v25)] [(.int .i64 r62), (.int .i64 v25)] H63 (by kernel_rfl) rfl (all_c rfl (all_c rfl all_n)) ⟨rfl, Nat.le_of_ble_eq_true (by kernel_rfl), rfl⟩ ?_
                refine t_done [capacities0, scripts1, (.agg [(.int .i64 r62), (.int .i64 v25)]), (.bool (decide ((len3 : Int) > 4))), (.bool (decide ((len4 : Int) > 5))), (.int .i64 v11), (.int .i64 (len5 : Int)), (.bool (decide (v11 < (len5 : Int)))), capacities0, d13, d14, d15, (.int .i64 v25), (.int .i64 (len19 : Int)), (.bool (decide (v25 < (len19 : Int)))), scripts1, e38, (.bool (decide ((len40 : Int) > 8))), (.int .i64 v25), (.int .i64 v47), (.int .i64 (len41 : Int)), (.bool (decide (v47 < (len41 : Int)))), e38, (.agg [(.int .i64 e53), (.int .i64 e54), (.int .i64 e55), (.int .i64 e56), e57]), (.int .i64 r62), (.bool ((r62) != 0))] H63 (by kernel_rfl) ?_
                refine then_norm ?_
                refine w_ret ?_
                refine block_ret ?_
                refine then_ret ?_
                refine loop_ret ?_
                refine block_ret ?_
                refine block_ret ?_
                refine then_ret ?_
                refine loop_ret ?_
                refine block_ret ?_
                refine then_ret ?_
                exact body_ret (vs := [(.agg [(.int .i64 r62), (.int .i64 v25)])]) _ (by kernel_rfl) rfl h
              · replace h := h.2 (is_ne.f hc)
                refine w_skip ?_
                refine block_norm ?_
                refine then_norm ?_
                refine w_run [0, 0] ?_
                refine t_done [capacities0, scripts1, (.agg [(.int .i64 v45), (.int .i64 v46)]), (.bool (decide ((len3 : Int) > 4))), (.bool (decide ((len4 : Int) > 5))), (.int .i64 v11), (.int .i64 (len5 : Int)), (.bool (decide (v11 < (len5 : Int)))), capacities0, d13, d14, d15, (.int .i64 v25), (.int .i64 (len19 : Int)), (.bool (decide (v25 < (len19 : Int)))), scripts1, e38, (.bool (decide ((len40 : Int) > 8))), (.int .i64 v25), (.int .i64 (IntKind.wrap .i64 (v47 + 1))), (.int .i64 (len41 : Int)), (.bool (decide (v47 < (len41 : Int)))), e38, (.agg [(.int .i64 e53), (.int .i64 e54), (.int .i64 e55), (.int .i64 e56), e57]), (.int .i64 r62), (.bool ((r62) != 0))] H63 (by kernel_rfl) ?_
                obtain ⟨m', hm, h⟩ := h
                refine loop_norm ⟨m', hm, _, _, _, _, _, _, _, rfl, h⟩
            · replace h := h.2 (is_dec.f hc)
              refine w_exit ?_
              refine then_exit ?_
              refine loop_exit ?_
              refine block_exit ?_
              refine block_norm ?_
              refine then_norm ?_
              refine w_run [0, 0] ?_
              refine t_done [capacities0, scripts1, (.agg [(.int .i64 v45), (.int .i64 v46)]), (.bool (decide ((len3 : Int) > 4))), (.bool (decide ((len4 : Int) > 5))), (.int .i64 v11), (.int .i64 (len5 : Int)), (.bool (decide (v11 < (len5 : Int)))), capacities0, d13, d14, d15, (.int .i64 (IntKind.wrap .i64 (v25 + 1))), (.int .i64 (len19 : Int)), (.bool (decide (v25 < (len19 : Int)))), scripts1, e38, (.bool (decide ((len40 : Int) > 8))), (.int .i64 v25), (.int .i64 v47), (.int .i64 (len41 : Int)), (.bool (decide (v47 < (len41 : Int)))), e38, d49, d50, d51] H52 (by kernel_rfl) ?_
              obtain ⟨m', hm, h⟩ := h
              refine loop_norm ⟨m', hm, _, _, _, _, _, _, _, _, _, _, _, _, _, _, rfl, h⟩
        · replace h := h.2 (is_dec.f hc)
          refine w_exit ?_
          refine then_exit ?_
          refine loop_exit ?_
          refine block_exit ?_
          refine then_norm ?_
          refine w_seq ?_
          refine w_run [1, 1] ?_
          refine t_build true [(.int .i64 0), (.int .i64 0)] [] [] [(.int .i64 0), (.int .i64 0)] H37 (by kernel_rfl) (by kernel_rfl) ?_
          refine t_upd true 2 0 [(.int .i64 v23), (.int .i64 v24)] (.agg [(.int .i64 0), (.int .i64 0)]) [(.int .i64 0), (.int .i64 0)] [(.int .i64 0), (.int .i64 0)] H37 (by kernel_rfl) rfl (all_c rfl (all_c rfl all_n)) ⟨rfl, Nat.le_of_ble_eq_true (by kernel_rfl), rfl⟩ ?_
          refine t_done [capacities0, scripts1, (.agg [(.int .i64 0), (.int .i64 0)]), (.bool (decide ((len3 : Int) > 4))), (.bool (decide ((len4 : Int) > 5))), (.int .i64 v11), (.int .i64 (len5 : Int)), (.bool (decide (v11 < (len5 : Int)))), capacities0, d13, d14, d15, (.int .i64 v25), (.int .i64 (len19 : Int)), (.bool (decide (v25 < (len19 : Int)))), scripts1, d27, d28, d29, d30, d31, d32, d33, d34, d35, d36] H37 (by kernel_rfl) ?_
          refine then_norm ?_
          refine w_ret ?_
          exact body_ret (vs := [(.agg [(.int .i64 0), (.int .i64 0)])]) _ (by kernel_rfl) rfl h

def rf_deadline_opCode (ndeadline_opCodex1 ndeadline_opCodex2 nslices_ContainsFunc__int_int : Nat) : RFunc := ⟨2, 17, [.var 2],
 ((.seq (.ops [⟨.tomb 1 (.var 0), none, (some 4), true⟩, ⟨.box 1 (.var 1), none, (some 3), true⟩, ⟨.move (.k (.int .i64 0)), none, (some 2), true⟩])
 ((.seq (.ops [⟨.makeFunc ndeadline_opCodex1 [(.var 3)], none, none, true⟩, ⟨.alloc 1 [.nilfunc], none, (some 8), true⟩, ⟨.store 1 (.loc 1) (.loc 0) [], none, none, true⟩])
 ((.seq ((.seq (.ops [⟨.field 0 none (.var 4), none, none, true⟩, ⟨.field 0 none (.var 4), none, (some 5), true⟩])
 (.block 0 ((.seq ((.seq (.ops [⟨.bin .eql .no (.var 5) (.k (.int .i64 1)), none, none, true⟩, ⟨.move (.loc 0), none, (some 6), true⟩])
 (.cond (.var 6) (.skip) (.ops [⟨.bin .eql .no (.var 5) (.k (.int .i64 2)), none, none, true⟩, ⟨.move (.loc 0), none, (some 6), true⟩]))))
 (.cond (.var 6) (.block 1 ((.seq (.ops [⟨.field 0 none (.var 4), none, none, true⟩, ⟨.field 3 none (.var 4), none, none, true⟩, ⟨.bin .neq .no (.loc 1) (.k (.int .i64 0)), none, none, true⟩, ⟨.move (.loc 2), none, none, true⟩, ⟨.field 0 none (.var 4), none, none, true⟩, ⟨.field 4 none (.var 4), none, none, true⟩, ⟨.len (.loc 5), none, none, true⟩, ⟨.bin .gtr .no (.loc 6) (.k (.int .i64 0)), none, none, true⟩, ⟨.pick (.loc 3) (.k (.bool true)) (.loc 7), none, none, true⟩, ⟨.move (.loc 8), none, none, true⟩, ⟨.field 0 none (.var 4), none, none, true⟩, ⟨.field 0 none (.var 4), none, none, true⟩, ⟨.bin .eql .no (.loc 11) (.k (.int .i64 2)), none, none, true⟩, ⟨.move (.loc 12), none, none, true⟩, ⟨.field 0 none (.var 4), none, none, true⟩, ⟨.field 2 none (.var 4), none, none, true⟩, ⟨.bin .neq .no (.loc 15) (.k (.int .i64 0)), none, none, true⟩, ⟨.pick (.loc 13) (.loc 16) (.k (.bool false)), none, none, true⟩, ⟨.pick (.loc 9) (.k (.bool true)) (.loc 17), none, none, true⟩, ⟨.move (.loc 18), none, (some 7), true⟩])
 (.cond (.var 7) ((.seq (.ops [⟨.move (.k (.int .i64 5)), none, (some 2), true⟩])
 (.ret))) ((.seq (.ops [⟨.load none (.var 8), none, none, true⟩, ⟨.field 0 none (.var 4), none, none, true⟩, ⟨.field 1 none (.var 4), none, none, true⟩, ⟨.call (.loc 0) [(.loc 2)], none, none, true⟩, ⟨.un .not (.loc 3), none, none, true⟩, ⟨.move (.loc 4), none, none, true⟩, ⟨.field 0 none (.var 4), none, none, true⟩, ⟨.field 2 none (.var 4), none, none, true⟩, ⟨.bin .lss .no (.loc 7) (.k (.int .i64 0)), none, none, true⟩, ⟨.pick (.loc 5) (.k (.bool true)) (.loc 8), none, none, true⟩, ⟨.move (.loc 9), none, none, true⟩, ⟨.field 0 none (.var 4), none, none, true⟩, ⟨.field 2 none (.var 4), none, none, true⟩, ⟨.bin .gtr .no (.loc 12) (.k (.int .i64 1000000000)), none, none, true⟩, ⟨.pick (.loc 10) (.k (.bool true)) (.loc 13), none, none, true⟩, ⟨.move (.loc 14), none, (some 9), true⟩])
 (.cond (.var 9) ((.seq (.ops [⟨.move (.k (.int .i64 3)), none, (some 2), true⟩])
 (.ret))) (.skip)))))))) ((.seq (.ops [⟨.bin .eql .no (.var 5) (.k (.int .i64 3)), none, none, true⟩, ⟨.move (.loc 0), none, (some 10), true⟩])
 (.cond (.var 10) (.block 2 ((.seq (.ops [⟨.field 0 none (.var 4), none, none, true⟩, ⟨.field 1 none (.var 4), none, none, true⟩, ⟨.bin .neq .no (.loc 1) (.k (.int .i64 0)), none, none, true⟩, ⟨.move (.loc 2), none, none, true⟩, ⟨.field 0 none (.var 4), none, none, true⟩, ⟨.field 2 none (.var 4), none, none, true⟩, ⟨.bin .neq .no (.loc 5) (.k (.int .i64 0)), none, none, true⟩, ⟨.pick (.loc 3) (.k (.bool true)) (.loc 6), none, none, true⟩, ⟨.move (.loc 7), none, (some 11), true⟩])
 (.cond (.var 11) ((.seq (.ops [⟨.move (.k (.int .i64 5)), none, (some 2), true⟩])
 (.ret))) ((.seq (.ops [⟨.field 0 none (.var 4), none, none, true⟩, ⟨.field 3 none (.var 4), none, none, true⟩, ⟨.bin .lss .no (.loc 1) (.k (.int .i64 (-1))), none, none, true⟩, ⟨.move (.loc 2), none, none, true⟩, ⟨.field 0 none (.var 4), none, none, true⟩, ⟨.field 3 none (.var 4), none, none, true⟩, ⟨.bin .gtr .no (.loc 5) (.k (.int .i64 60)), none, none, true⟩, ⟨.pick (.loc 3) (.k (.bool true)) (.loc 6), none, none, true⟩, ⟨.move (.loc 7), none, none, true⟩, ⟨.field 0 none (.var 4), none, none, true⟩, ⟨.field 4 none (.var 4), none, none, true⟩, ⟨.makeFunc ndeadline_opCodex2 [(.var 8)], (some (8, false)), none, true⟩, ⟨.callS nslices_ContainsFunc__int_int [(.loc 10), (.loc 11)], (some (8, false)), none, true⟩, ⟨.pick (.loc 8) (.k (.bool true)) (.loc 12), none, none, true⟩, ⟨.move (.loc 13), none, (some 12), true⟩])
 (.cond (.var 12) ((.seq (.ops [⟨.move (.k (.int .i64 3)), none, (some 2), true⟩])
 (.ret))) ((.seq (.ops [⟨.field 0 none (.var 4), none, none, true⟩, ⟨.field 4 none (.var 4), none, none, true⟩, ⟨.len (.loc 1), none, none, true⟩, ⟨.bin .gtr .no (.loc 2) (.k (.int .i64 4)), none, none, true⟩, ⟨.move (.loc 3), none, (some 13), true⟩])
 (.cond (.var 13) ((.seq (.ops [⟨.move (.k (.int .i64 2)), none, (some 2), true⟩])
 (.ret))) (.skip))))))))))) ((.seq (.ops [⟨.bin .eql .no (.var 5) (.k (.int .i64 4)), none, none, true⟩, ⟨.move (.loc 0), none, (some 14), true⟩])
 (.cond (.var 14) (.block 3 ((.seq (.ops [⟨.field 0 none (.var 4), none, none, true⟩, ⟨.field 1 none (.var 4), none, none, true⟩, ⟨.bin .neq .no (.loc 1) (.k (.int .i64 0)), none, none, true⟩, ⟨.move (.loc 2), none, none, true⟩, ⟨.field 0 none (.var 4), none, none, true⟩, ⟨.field 2 none (.var 4), none, none, true⟩, ⟨.bin .neq .no (.loc 5) (.k (.int .i64 0)), none, none, true⟩, ⟨.pick (.loc 3) (.k (.bool true)) (.loc 6), none, none, true⟩, ⟨.move (.loc 7), none, none, true⟩, ⟨.field 0 none (.var 4), none, none, true⟩, ⟨.field 4 none (.var 4), none, none, true⟩, ⟨.len (.loc 10), none, none, true⟩, ⟨.bin .gtr .no (.loc 11) (.k (.int .i64 0)), none, none, true⟩, ⟨.pick (.loc 8) (.k (.bool true)) (.loc 12), none, none, true⟩, ⟨.move (.loc 13), none, (some 15), true⟩])
 (.cond (.var 15) ((.seq (.ops [⟨.move (.k (.int .i64 5)), none, (some 2), true⟩])
 (.ret))) ((.seq (.ops [⟨.field 0 none (.var 4), none, none, true⟩, ⟨.field 3 none (.var 4), none, none, true⟩, ⟨.bin .lss .no (.loc 1) (.k (.int .i64 0)), none, none, true⟩, ⟨.move (.loc 2), none, none, true⟩, ⟨.field 0 none (.var 4), none, none, true⟩, ⟨.field 3 none (.var 4), none, none, true⟩, ⟨.bin .gtr .no (.loc 5) (.k (.int .i64 60)), none, none, true⟩, ⟨.pick (.loc 3) (.k (.bool true)) (.loc 6), none, none, true⟩, ⟨.move (.loc 7), none, (some 16), true⟩])
 (.cond (.var 16) ((.seq (.ops [⟨.move (.k (.int .i64 3)), none, (some 2), true⟩])
 (.ret))) (.skip)))))))) ((.seq (.ops [⟨.move (.k (.int .i64 4)), none, (some 2), true⟩])
 (.ret)))))))))))))))
 ((.seq (.ops [⟨.move (.k (.int .i64 0)), none, (some 2), true⟩])
 (.ret))))))))), none⟩
theorem v_deadline_opCode {F : Nat → Option RFunc} {me ndeadline_opCodex1 ndeadline_opCodex2 nslices_ContainsFunc__int_int : Nat} (hF : F me = some (rf_deadline_opCode ndeadline_opCodex1 ndeadline_opCodex2 nslices_ContainsFunc__int_int)) {fl : Nat} {H : Heap} {Q : AV → Heap → Prop} (o0 : Int) (o1 : Int) (o2 : Int) (o3 : Int) (o4 : AV) (channels5 : Int)
  (h : ∀ (H6 : Heap), Dead1 H 1 H6 → ∀ (b7 : Nat) (H8 : Heap), NewB H6 1 [(.int .i64 channels5)] b7 H8 → ∀ (b9 : Nat) (H10 : Heap), NewB H8 1 [.nilfunc] b9 H10 → ∃ H11 : Heap, putA fl H10 b9 0 1 (.func ndeadline_opCodex1 [(.ptr b7 0)]) = some H11 ∧ ∃ (R12 : Bool → Prop), (((o0 = 1) → R12 ((o0) == 1)) ∧ (¬(o0 = 1) → R12 ((o0) == 2))) ∧ (∀ (v13 : Bool), R12 v13 → ((v13 = true) → ∃ len14 : Nat, lenA o4 = some len14 ∧ ((((((o3 ≠ 0) ∨ ((len14 : Int) > 0))) ∨ (((o0 = 2) ∧ (o2 ≠ 0))))) → Q (.int .i64 5) H11) ∧ (¬(((((o3 ≠ 0) ∨ ((len14 : Int) > 0))) ∨ (((o0 = 2) ∧ (o2 ≠ 0))))) → ∃ (e15 : AV), rload H11 none b9 0 = some e15 ∧ ∃ (g16 : Nat) (c17 : List AV), e15 = .func g16 c17 ∧ Ret F fl g16 (([(.int .i64 o1)] : List AV) ++ c17) H11 (fun v20 H19 => ∃ (r18 : Bool), v20 = (.bool r18) ∧ ((((((¬(r18 = true)) ∨ (o2 < 0))) ∨ (o2 > 1000000000))) → Q (.int .i64 3) H19) ∧ (¬(((((¬(r18 = true)) ∨ (o2 < 0))) ∨ (o2 > 1000000000))) → Q (.int .i64 0) H19)))) ∧ (¬(v13 = true) → ((o0 = 3) → ((((o1 ≠ 0) ∨ (o2 ≠ 0))) → Q (.int .i64 5) H11) ∧ (¬(((o1 ≠ 0) ∨ (o2 ≠ 0))) → ((((o3 < (-1)) ∨ (o3 > 60))) → Q (.int .i64 3) H11) ∧ (¬(((o3 < (-1)) ∨ (o3 > 60))) → Ret F fl nslices_ContainsFunc__int_int [o4, (.func ndeadline_opCodex2 [(.ptr b9 0)])] H11 (fun v23 H22 => ∃ (r21 : Bool), v23 = (.bool r21) ∧ ((r21 = true) → Q (.int .i64 3) H22) ∧ (¬(r21 = true) → ∃ len24 : Nat, lenA o4 = some len24 ∧ (((len24 : Int) > 4) → Q (.int .i64 2) H22) ∧ (¬((len24 : Int) > 4) → Q (.int .i64 0) H22)))))) ∧ (¬(o0 = 3) → ((o0 = 4) → ∃ len25 : Nat, lenA o4 = some len25 ∧ ((((((o1 ≠ 0) ∨ (o2 ≠ 0))) ∨ ((len25 : Int) > 0))) → Q (.int .i64 5) H11) ∧ (¬(((((o1 ≠ 0) ∨ (o2 ≠ 0))) ∨ ((len25 : Int) > 0))) → ((((o3 < 0) ∨ (o3 > 60))) → Q (.int .i64 3) H11) ∧ (¬(((o3 < 0) ∨ (o3 > 60))) → Q (.int .i64 0) H11))) ∧ (¬(o0 = 4) → Q (.int .i64 4) H11))))) : Ret F fl me [(.agg [(.int .i64 o0), (.int .i64 o1), (.int .i64 o2), (.int .i64 o3), o4]), (.int .i64 channels5)] H Q := by
  refine ret_intro hF rfl ?_
  refine w_seq ?_
  refine w_run [1, 1, 0] ?_
  obtain ⟨H6, hb⟩ : ∃ H', Dead1 H 1 H' := ⟨_, ⟨rfl⟩⟩
  replace h := h H6 hb
  refine t_tomb true 1 (.agg [(.int .i64 o0), (.int .i64 o1), (.int .i64 o2), (.int .i64 o3), o4]) [(.int .i64 o0), (.int .i64 o1), (.int .i64 o2), (.int .i64 o3), o4] H6 H (by kernel_rfl) rfl hb ?_
  obtain ⟨b7, H8, hb⟩ : ∃ b H', NewB H6 1 [(.int .i64 channels5)] b H' := ⟨_, _, rfl, rfl⟩
  replace h := h b7 H8 hb
  refine t_box true 1 (.int .i64 channels5) [(.int .i64 channels5)] b7 H8 H6 (by kernel_rfl) rfl hb ?_
  refine t_done [(.agg [(.int .i64 o0), (.int .i64 o1), (.int .i64 o2), (.int .i64 o3), o4]), (.int .i64 channels5), (.int .i64 0), (.ptr b7 0), (.agg [(.int .i64 o0), (.int .i64 o1), (.int .i64 o2), (.int .i64 o3), o4]), .undef, .undef, .undef, .undef, .undef, .undef, .undef, .undef, .undef, .undef, .undef, .undef] H8 (by kernel_rfl) ?_
  refine then_norm ?_
  refine w_seq ?_
  refine w_run [0, 1, 1] ?_
  obtain ⟨b9, H10, hb⟩ : ∃ b H', NewB H8 1 [.nilfunc] b H' := ⟨_, _, rfl, rfl⟩
  replace h := h b9 H10 hb
  refine t_alloc true 1 [.nilfunc] b9 H10 H8 (by kernel_rfl) hb ?_
  obtain ⟨H11, hp, h⟩ := h
  refine t_store true 1 b9 0 (.func ndeadline_opCodex1 [(.ptr b7 0)]) H11 H10 (by kernel_rfl) hp ?_
  refine t_done [(.agg [(.int .i64 o0), (.int .i64 o1), (.int .i64 o2), (.int .i64 o3), o4]), (.int .i64 channels5), (.int .i64 0), (.ptr b7 0), (.agg [(.int .i64 o0), (.int .i64 o1), (.int .i64 o2), (.int .i64 o3), o4]), .undef, .undef, .undef, (.ptr b9 0), .undef, .undef, .undef, .undef, .undef, .undef, .undef, .undef] H11 (by kernel_rfl) ?_
  refine then_norm ?_
  refine w_seq ?_
  refine w_seq ?_
  refine w_run [0, 0] ?_
  refine t_done [(.agg [(.int .i64 o0), (.int .i64 o1), (.int .i64 o2), (.int .i64 o3), o4]), (.int .i64 channels5), (.int .i64 0), (.ptr b7 0), (.agg [(.int .i64 o0), (.int .i64 o1), (.int .i64 o2), (.int .i64 o3), o4]), (.int .i64 o0), .undef, .undef, (.ptr b9 0), .undef, .undef, .undef, .undef, .undef, .undef, .undef, .undef] H11 (by kernel_rfl) ?_
  refine then_norm ?_
  refine w_block ?_
  refine w_seq ?_
  obtain ⟨R12, h, hK⟩ := h
  refine w_join (fun EI HI => ∃ (v13 : Bool), EI = [(.agg [(.int .i64 o0), (.int .i64 o1), (.int .i64 o2), (.int .i64 o3), o4]), (.int .i64 channels5), (.int .i64 0), (.ptr b7 0), (.agg [(.int .i64 o0), (.int .i64 o1), (.int .i64 o2), (.int .i64 o3), o4]), (.int .i64 o0), (.bool v13), .undef, (.ptr b9 0), .undef, .undef, .undef, .undef, .undef, .undef, .undef, .undef] ∧ H11 = HI ∧ R12 v13) ?_ ?_
  · clear hK
    refine w_seq ?_
    refine w_run [0, 0] ?_
    refine t_done [(.agg [(.int .i64 o0), (.int .i64 o1), (.int .i64 o2), (.int .i64 o3), o4]), (.int .i64 channels5), (.int .i64 0), (.ptr b7 0), (.agg [(.int .i64 o0), (.int .i64 o1), (.int .i64 o2), (.int .i64 o3), o4]), (.int .i64 o0), (.bool ((o0) == 1)), .undef, (.ptr b9 0), .undef, .undef, .undef, .undef, .undef, .undef, .undef, .undef] H11 (by kernel_rfl) ?_
    refine then_norm ?_
    refine w_cond (t := ((o0) == 1)) rfl (fun hc => ?_) (fun hc => ?_)
    · replace h := h.1 (is_eq.t hc)
      refine w_skip ?_
      refine join_norm ⟨_, rfl, rfl, h⟩
    · replace h := h.2 (is_eq.f hc)
      refine w_run [0, 0] ?_
      refine t_done [(.agg [(.int .i64 o0), (.int .i64 o1), (.int .i64 o2), (.int .i64 o3), o4]), (.int .i64 channels5), (.int .i64 0), (.ptr b7 0), (.agg [(.int .i64 o0), (.int .i64 o1), (.int .i64 o2), (.int .i64 o3), o4]), (.int .i64 o0), (.bool ((o0) == 2)), .undef, (.ptr b9 0), .undef, .undef, .undef, .undef, .undef, .undef, .undef, .undef] H11 (by kernel_rfl) ?_
      refine join_norm ⟨_, rfl, rfl, h⟩
  · clear h
    rintro EI HI ⟨v13, rfl, rfl, hJ⟩
    have h := hK v13 hJ
    clear hJ hK
    refine then_norm ?_
    refine w_cond (t := v13) rfl (fun hc => ?_) (fun hc => ?_)
    · replace h := h.1 (is_raw.t hc)
      refine w_block ?_
      refine w_seq ?_
      refine w_run [0, 0, 0, 0, 0, 0, 1, 0, 0, 0, 0, 0, 0, 0, 0, 0, 0, 0, 0, 0] ?_
      obtain ⟨len14, hl, h⟩ := h
      refine t_len true o4 len14 H11 (by kernel_rfl) hl ?_
      refine t_done [(.agg [(.int .i64 o0), (.int .i64 o1), (.int .i64 o2), (.int .i64 o3), o4]), (.int .i64 channels5), (.int .i64 0), (.ptr b7 0), (.agg [(.int .i64 o0), (.int .i64 o1), (.int .i64 o2), (.int .i64 o3), o4]), (.int .i64 o0), (.bool v13), (.bool ((((o3) != 0) || (decide ((len14 : Int) > 0))) || (((o0) == 2) && ((o2) != 0)))), (.ptr b9 0), .undef, .undef, .undef, .undef, .undef, .undef, .undef, .undef] H11 (by kernel_rfl) ?_
      refine then_norm ?_
      refine w_cond (t := ((((o3) != 0) || (decide ((len14 : Int) > 0))) || (((o0) == 2) && ((o2) != 0)))) rfl (fun hc => ?_) (fun hc => ?_)
      · replace h := h.1 ((is_or (is_or is_ne is_dec) (is_and is_eq is_ne)).t hc)
        refine w_seq ?_
        refine w_run [0] ?_
        refine t_done [(.agg [(.int .i64 o0), (.int .i64 o1), (.int .i64 o2), (.int .i64 o3), o4]), (.int .i64 channels5), (.int .i64 5), (.ptr b7 0), (.agg [(.int .i64 o0), (.int .i64 o1), (.int .i64 o2), (.int .i64 o3), o4]), (.int .i64 o0), (.bool v13), (.bool ((((o3) != 0) || (decide ((len14 : Int) > 0))) || (((o0) == 2) && ((o2) != 0)))), (.ptr b9 0), .undef, .undef, .undef, .undef, .undef, .undef, .undef, .undef] H11 (by kernel_rfl) ?_
        refine then_norm ?_
        refine w_ret ?_
        refine block_ret ?_
        refine block_ret ?_
        refine then_ret ?_
        exact body_ret (vs := [(.int .i64 5)]) _ (by kernel_rfl) rfl h
      · replace h := h.2 ((is_or (is_or is_ne is_dec) (is_and is_eq is_ne)).f hc)
        refine w_seq ?_
        refine w_run [1, 0, 0, 1, 0, 0, 0, 0, 0, 0, 0, 0, 0, 0, 0, 0] ?_
        obtain ⟨e15, hl, h⟩ := h
        refine t_load true none b9 0 e15 H11 (by kernel_rfl) hl ?_
        obtain ⟨g16, c17, rfl, h⟩ := h
        refine t_call true g16 (([(.int .i64 o1)] : List AV) ++ c17) H11 (by kernel_rfl) h ?_
        clear h
        rintro _ H19 ⟨r18, rfl, h⟩
        refine t_done [(.agg [(.int .i64 o0), (.int .i64 o1), (.int .i64 o2), (.int .i64 o3), o4]), (.int .i64 channels5), (.int .i64 0), (.ptr b7 0), (.agg [(.int .i64 o0), (.int .i64 o1), (.int .i64 o2), (.int .i64 o3), o4]), (.int .i64 o0), (.bool v13), (.bool ((((o3) != 0) || (decide ((len14 : Int) > 0))) || (((o0) == 2) && ((o2) != 0)))), (.ptr b9 0), (.bool (((!r18) || (decide (o2 < 0))) || (decide (o2 > 1000000000)))), .undef, .undef, .undef, .undef, .undef, .undef, .undef] H19 (by kernel_rfl) ?_
        refine then_norm ?_
        refine w_cond (t := (((!r18) || (decide (o2 < 0))) || (decide (o2 > 1000000000)))) rfl (fun hc => ?_) (fun hc => ?_)
        · replace h := h.1 ((is_or (is_or (is_not is_raw) is_dec) is_dec).t hc)
          refine w_seq ?_
          refine w_run [0] ?_
          refine t_done [(.agg [(.int .i64 o0), (.int .i64 o1), (.int .i64 o2), (.int .i64 o3), o4]), (.int .i64 channels5), (.int .i64 3), (.ptr b7 0), (.agg [(.int .i64 o0), (.int .i64 o1), (.int .i64 o2), (.int .i64 o3), o4]), (.int .i64 o0), (.bool v13), (.bool ((((o3) != 0) || (decide ((len14 : Int) > 0))) || (((o0) == 2) && ((o2) != 0)))), (.ptr b9 0), (.bool (((!r18) || (decide (o2 < 0))) || (decide (o2 > 1000000000)))), .undef, .undef, .undef, .undef, .undef, .undef, .undef] H19 (by kernel_rfl) ?_
          refine then_norm ?_
          refine w_ret ?_
          refine block_ret ?_
          refine block_ret ?_
          refine then_ret ?_
          exact body_ret (vs := [(.int .i64 3)]) _ (by kernel_rfl) rfl h
        · replace h := h.2 ((is_or (is_or (is_not is_raw) is_dec) is_dec).f hc)
          refine w_skip ?_
          refine block_norm ?_
          refine block_norm ?_
          refine then_norm ?_
          refine w_seq ?_
          refine w_run [0] ?_
          refine t_done [(.agg [(.int .i64 o0), (.int .i64 o1), (.int .i64 o2), (.int .i64 o3), o4]), (.int .i64 channels5), (.int .i64 0), (.ptr b7 0), (.agg [(.int .i64 o0), (.int .i64 o1), (.int .i64 o2), (.int .i64 o3), o4]), (.int .i64 o0), (.bool v13), (.bool ((((o3) != 0) || (decide ((len14 : Int) > 0))) || (((o0) == 2) && ((o2) != 0)))), (.ptr b9 0), (.bool (((!r18) || (decide (o2 < 0))) || (decide (o2 > 1000000000)))), .undef, .undef, .undef, .undef, .undef, .undef, .undef] H19 (by kernel_rfl) ?_
          refine then_norm ?_
          refine w_ret ?_
          exact body_ret (vs := [(.int .i64 0)]) _ (by kernel_rfl) rfl h
    · replace h := h.2 (is_raw.f hc)
      refine w_seq ?_
      refine w_run [0, 0] ?_
      refine t_done [(.agg [(.int .i64 o0), (.int .i64 o1), (.int .i64 o2), (.int .i64 o3), o4]), (.int .i64 channels5), (.int .i64 0), (.ptr b7 0), (.agg [(.int .i64 o0), (.int .i64 o1), (.int .i64 o2), (.int .i64 o3), o4]), (.int .i64 o0), (.bool v13), .undef, (.ptr b9 0), .undef, (.bool ((o0) == 3)), .undef, .undef, .undef, .undef, .undef, .undef] H11 (by kernel_rfl) ?_
      refine then_norm ?_
      refine w_cond (t := ((o0) == 3)) rfl (fun hc => ?_) (fun hc => ?_)
      · replace h := h.1 (is_eq.t hc)
        refine w_block ?_
        refine w_seq ?_
        refine w_run [0, 0, 0, 0, 0, 0, 0, 0, 0] ?_
        refine t_done [(.agg [(.int .i64 o0), (.int .i64 o1), (.int .i64 o2), (.int .i64 o3), o4]), (.int .i64 channels5), (.int .i64 0), (.ptr b7 0), (.agg [(.int .i64 o0), (.int .i64 o1), (.int .i64 o2), (.int .i64 o3), o4]), (.int .i64 o0), (.bool v13), .undef, (.ptr b9 0), .undef, (.bool ((o0) == 3)), (.bool (((o1) != 0) || ((o2) != 0))), .undef, .undef, .undef, .undef, .undef] H11 (by kernel_rfl) ?_
        refine then_norm ?_
        refine w_cond (t := (((o1) != 0) || ((o2) != 0))) rfl (fun hc => ?_) (fun hc => ?_)
        · replace h := h.1 ((is_or is_ne is_ne).t hc)
          refine w_seq ?_
          refine w_run [0] ?_
          refine t_done [(.agg [(.int .i64 o0), (.int .i64 o1), (.int .i64 o2), (.int .i64 o3), o4]), (.int .i64 channels5), (.int .i64 5), (.ptr b7 0), (.agg [(.int .i64 o0), (.int .i64 o1), (.int .i64 o2), (.int .i64 o3), o4]), (.int .i64 o0), (.bool v13), .undef, (.ptr b9 0), .undef, (.bool ((o0) == 3)), (.bool (((o1) != 0) || ((o2) != 0))), .undef, .undef, .undef, .undef, .undef] H11 (by kernel_rfl) ?_
          refine then_norm ?_
          refine w_ret ?_
          refine block_ret ?_
          refine block_ret ?_
          refine then_ret ?_
          exact body_ret (vs := [(.int .i64 5)]) _ (by kernel_rfl) rfl h
        · replace h := h.2 ((is_or is_ne is_ne).f hc)
          refine w_seq ?_
          refine w_run [0, 0, 0, 0, 0, 0, 0, 0, 0, 0, 0, 2, 3, 0, 0] ?_
          refine t_gd ((decide (o3 < (-1))) || (decide (o3 > 60))) false (by kernel_rfl) (fun hc => ?_) (fun hc => ?_)
          · replace h := h.2 ((is_or is_dec is_dec).f hc)
            refine t_gd false false (by kernel_rfl) (fun _ => ?_) (fun hn => by cases hn)
            refine t_call true nslices_ContainsFunc__int_int [o4, (.func ndeadline_opCodex2 [(.ptr b9 0)])] H11 (by kernel_rfl) h ?_
            clear h
            rintro _ H22 ⟨r21, rfl, h⟩
            refine t_done [(.agg [(.int .i64 o0), (.int .i64 o1), (.int .i64 o2), (.int .i64 o3), o4]), (.int .i64 channels5), (.int .i64 0), (.ptr b7 0), (.agg [(.int .i64 o0), (.int .i64 o1), (.int .i64 o2), (.int .i64 o3), o4]), (.int .i64 o0), (.bool v13), .undef, (.ptr b9 0), .undef, (.bool ((o0) == 3)), (.bool (((o1) != 0) || ((o2) != 0))), (.bool r21), .undef, .undef, .undef, .undef] H22 (by kernel_rfl) ?_
            refine then_norm ?_
            refine w_cond (t := r21) rfl (fun hc => ?_) (fun hc => ?_)
            · replace h := h.1 (is_raw.t hc)
              refine w_seq ?_
              refine w_run [0] ?_
              refine t_done [(.agg [(.int .i64 o0), (.int .i64 o1), (.int .i64 o2), (.int .i64 o3), o4]), (.int .i64 channels5), (.int .i64 3), (.ptr b7 0), (.agg [(.int .i64 o0), (.int .i64 o1), (.int .i64 o2), (.int .i64 o3), o4]), (.int .i64 o0), (.bool v13), .undef, (.ptr b9 0), .undef, (.bool ((o0) == 3)), (.bool (((o1) != 0) || ((o2) != 0))), (.bool r21), .undef, .undef, .undef, .undef] H22 (by kernel_rfl) ?_
              refine then_norm ?_
              refine w_ret ?_
              refine block_ret ?_
              refine block_ret ?_
              refine then_ret ?_
              exact body_ret (vs := [(.int .i64 3)]) _ (by kernel_rfl) rfl h
            · replace h := h.2 (is_raw.f hc)
              refine w_seq ?_
              refine w_run [0, 0, 1, 0, 0] ?_
              obtain ⟨len24, hl, h⟩ := h
              refine t_len true o4 len24 H22 (by kernel_rfl) hl ?_
              refine t_done [(.agg [(.int .i64 o0), (.int .i64 o1), (.int .i64 o2), (.int .i64 o3), o4]), (.int .i64 channels5), (.int .i64 0), (.ptr b7 0), (.agg [(.int .i64 o0), (.int .i64 o1), (.int .i64 o2), (.int .i64 o3), o4]), (.int .i64 o0), (.bool v13), .undef, (.ptr b9 0), .undef, (.bool ((o0) == 3)), (.bool (((o1) != 0) || ((o2) != 0))), (.bool r21), (.bool (decide ((len24 : Int) > 4))), .undef, .undef, .undef] H22 (by kernel_rfl) ?_
              refine then_norm ?_
              refine w_cond (t := (decide ((len24 : Int) > 4))) rfl (fun hc => ?_) (fun hc => ?_)
              · replace h := h.1 (is_dec.t hc)
                refine w_seq ?_
                refine w_run [0] ?_
                refine t_done [(.agg [(.int .i64 o0), (.int .i64 o1), (.int .i64 o2), (.int .i64 o3), o4]), (.int .i64 channels5), (.int .i64 2), (.ptr b7 0), (.agg [(.int .i64 o0), (.int .i64 o1), (.int .i64 o2), (.int .i64 o3), o4]), (.int .i64 o0), (.bool v13), .undef, (.ptr b9 0), .undef, (.bool ((o0) == 3)), (.bool (((o1) != 0) || ((o2) != 0))), (.bool r21), (.bool (decide ((len24 : Int) > 4))), .undef, .undef, .undef] H22 (by kernel_rfl) ?_
                refine then_norm ?_
                refine w_ret ?_
                refine block_ret ?_
                refine block_ret ?_
                refine then_ret ?_
                exact body_ret (vs := [(.int .i64 2)]) _ (by kernel_rfl) rfl h
              · replace h := h.2 (is_dec.f hc)
                refine w_skip ?_
                refine block_norm ?_
                refine block_norm ?_
                refine then_norm ?_
                refine w_seq ?_
                refine w_run [0] ?_
                refine t_done [(.agg [(.int .i64 o0), (.int .i64 o1), (.int .i64 o2), (.int .i64 o3), o4]), (.int .i64 channels5), (.int .i64 0), (.ptr b7 0), (.agg [(.int .i64 o0), (.int .i64 o1), (.int .i64 o2), (.int .i64 o3), o4]), (.int .i64 o0), (.bool v13), .undef, (.ptr b9 0), .undef, (.bool ((o0) == 3)), (.bool (((o1) != 0) || ((o2) != 0))), (.bool r21), (.bool (decide ((len24 : Int) > 4))), .undef, .undef, .undef] H22 (by kernel_rfl) ?_
                refine then_norm ?_
                refine w_ret ?_
                exact body_ret (vs := [(.int .i64 0)]) _ (by kernel_rfl) rfl h
          · replace h := h.1 ((is_or is_dec is_dec).t hc)
            refine t_gd true false (by kernel_rfl) (fun hn => by cases hn) (fun _ => ?_)
            refine t_done [(.agg [(.int .i64 o0), (.int .i64 o1), (.int .i64 o2), (.int .i64 o3), o4]), (.int .i64 channels5), (.int .i64 0), (.ptr b7 0), (.agg [(.int .i64 o0), (.int .i64 o1), (.int .i64 o2), (.int .i64 o3), o4]), (.int .i64 o0), (.bool v13), .undef, (.ptr b9 0), .undef, (.bool ((o0) == 3)), (.bool (((o1) != 0) || ((o2) != 0))), (.bool true), .undef, .undef, .undef, .undef] H11 (by kernel_rfl) ?_
            refine then_norm ?_
            refine w_cond (t := true) rfl (fun _ => ?_) (fun hc => by cases hc)
            refine w_seq ?_
            refine w_run [0] ?_
            refine t_done [(.agg [(.int .i64 o0), (.int .i64 o1), (.int .i64 o2), (.int .i64 o3), o4]), (.int .i64 channels5), (.int .i64 3), (.ptr b7 0), (.agg [(.int .i64 o0), (.int .i64 o1), (.int .i64 o2), (.int .i64 o3), o4]), (.int .i64 o0), (.bool v13), .undef, (.ptr b9 0), .undef, (.bool ((o0) == 3)), (.bool (((o1) != 0) || ((o2) != 0))), (.bool true), .undef, .undef, .undef, .undef] H11 (by kernel_rfl) ?_
            refine then_norm ?_
            refine w_ret ?_
            refine block_ret ?_
            refine block_ret ?_
            refine then_ret ?_
            exact body_ret (vs := [(.int .i64 3)]) _ (by kernel_rfl) rfl h
      · replace h := h.2 (is_eq.f hc)
        refine w_seq ?_
        refine w_run [0, 0] ?_
        refine t_done [(.agg [(.int .i64 o0), (.int .i64 o1), (.int .i64 o2), (.int .i64 o3), o4]), (.int .i64 channels5), (.int .i64 0), (.ptr b7 0), (.agg [(.int .i64 o0), (.int .i64 o1), (.int .i64 o2), (.int .i64 o3), o4]), (.int .i64 o0), (.bool v13), .undef, (.ptr b9 0), .undef, (.bool ((o0) == 3)), .undef, .undef, .undef, (.bool ((o0) == 4)), .undef, .undef] H11 (by kernel_rfl) ?_
        refine then_norm ?_
        refine w_cond (t := ((o0) == 4)) rfl (fun hc => ?_) (fun hc => ?_)
        · replace h := h.1 (is_eq.t hc)
          refine w_block ?_
          refine w_seq ?_
          refine w_run [0, 0, 0, 0, 0, 0, 0, 0, 0, 0, 0, 1, 0, 0, 0] ?_
          obtain ⟨len25, hl, h⟩ := h
          refine t_len true o4 len25 H11 (by kernel_rfl) hl ?_
          refine t_done [(.agg [(.int .i64 o0), (.int .i64 o1), (.int .i64 o2), (.int .i64 o3), o4]), (.int .i64 channels5), (.int .i64 0), (.ptr b7 0), (.agg [(.int .i64 o0), (.int .i64 o1), (.int .i64 o2), (.int .i64 o3), o4]), (.int .i64 o0), (.bool v13), .undef, (.ptr b9 0), .undef, (.bool ((o0) == 3)), .undef, .undef, .undef, (.bool ((o0) == 4)), (.bool ((((o1) != 0) || ((o2) != 0)) || (decide ((len25 : Int) > 0)))), .undef] H11 (by kernel_rfl) ?_
          refine then_norm ?_
          refine w_cond (t := ((((o1) != 0) || ((o2) != 0)) || (decide ((len25 : Int) > 0)))) rfl (fun hc => ?_) (fun hc => ?_)
          · replace h := h.1 ((is_or (is_or is_ne is_ne) is_dec).t hc)
            refine w_seq ?_
            refine w_run [0] ?_
            refine t_done [(.agg [(.int .i64 o0), (.int .i64 o1), (.int .i64 o2), (.int .i64 o3), o4]), (.int .i64 channels5), (.int .i64 5), (.ptr b7 0), (.agg [(.int .i64 o0), (.int .i64 o1), (.int .i64 o2), (.int .i64 o3), o4]), (.int .i64 o0), (.bool v13), .undef, (.ptr b9 0), .undef, (.bool ((o0) == 3)), .undef, .undef, .undef, (.bool ((o0) == 4)), (.bool ((((o1) != 0) || ((o2) != 0)) || (decide ((len25 : Int) > 0)))), .undef] H11 (by kernel_rfl) ?_
            refine then_norm ?_
            refine w_ret ?_
            refine block_ret ?_
            refine block_ret ?_
            refine then_ret ?_
            exact body_ret (vs := [(.int .i64 5)]) _ (by kernel_rfl) rfl h
          · replace h := h.2 ((is_or (is_or is_ne is_ne) is_dec).f hc)
            refine w_seq ?_
            refine w_run [0, 0, 0, 0, 0, 0, 0, 0, 0] ?_
            refine t_done [(.agg [(.int .i64 o0), (.int .i64 o1), (.int .i64 o2), (.int .i64 o3), o4]), (.int .i64 channels5), (.int .i64 0), (.ptr b7 0), (.agg [(.int .i64 o0), (.int .i64 o1), (.int .i64 o2), (.int .i64 o3), o4]), (.int .i64 o0), (.bool v13), .undef, (.ptr b9 0), .undef, (.bool ((o0) == 3)), .undef, .undef, .undef, (.bool ((o0) == 4)), (.bool ((((o1) != 0) || ((o2) != 0)) || (decide ((len25 : Int) > 0)))), (.bool ((decide (o3 < 0)) || (decide (o3 > 60))))] H11 (by kernel_rfl) ?_
            refine then_norm ?_
            refine w_cond (t := ((decide (o3 < 0)) || (decide (o3 > 60)))) rfl (fun hc => ?_) (fun hc => ?_)
            · replace h := h.1 ((is_or is_dec is_dec).t hc)
              refine w_seq ?_
              refine w_run [0] ?_
              refine t_done [(.agg [(.int .i64 o0), (.int .i64 o1), (.int .i64 o2), (.int .i64 o3), o4]), (.int .i64 channels5), (.int .i64 3), (.ptr b7 0), (.agg [(.int .i64 o0), (.int .i64 o1), (.int .i64 o2), (.int .i64 o3), o4]), (.int .i64 o0), (.bool v13), .undef, (.ptr b9 0), .undef, (.bool ((o0) == 3)), .undef, .undef, .undef, (.bool ((o0) == 4)), (.bool ((((o1) != 0) || ((o2) != 0)) || (decide ((len25 : Int) > 0)))), (.bool ((decide (o3 < 0)) || (decide (o3 > 60))))] H11 (by kernel_rfl) ?_
              refine then_norm ?_
              refine w_ret ?_
              refine block_ret ?_
              refine block_ret ?_
              refine then_ret ?_
              exact body_ret (vs := [(.int .i64 3)]) _ (by kernel_rfl) rfl h
            · replace h := h.2 ((is_or is_dec is_dec).f hc)
              refine w_skip ?_
              refine block_norm ?_
              refine block_norm ?_
              refine then_norm ?_
              refine w_seq ?_
              refine w_run [0] ?_
              refine t_done [(.agg [(.int .i64 o0), (.int .i64 o1), (.int .i64 o2), (.int .i64 o3), o4]), (.int .i64 channels5), (.int .i64 0), (.ptr b7 0), (.agg [(.int .i64 o0), (.int .i64 o1), (.int .i64 o2), (.int .i64 o3), o4]), (.int .i64 o0), (.bool v13), .undef, (.ptr b9 0), .undef, (.bool ((o0) == 3)), .undef, .undef, .undef, (.bool ((o0) == 4)), (.bool ((((o1) != 0) || ((o2) != 0)) || (decide ((len25 : Int) > 0)))), (.bool ((decide (o3 < 0)) || (decide (o3 > 60))))] H11 (by kernel_rfl) ?_
              refine then_norm ?_
              refine w_ret ?_
              exact body_ret (vs := [(.int .i64 0)]) _ (by kernel_rfl) rfl h
        · replace h := h.2 (is_eq.f hc)
          refine w_seq ?_
          refine w_run [0] ?_
          refine t_done [(.agg [(.int .i64 o0), (.int .i64 o1), (.int .i64 o2), (.int .i64 o3), o4]), (.int .i64 channels5), (.int .i64 4), (.ptr b7 0), (.agg [(.int .i64 o0), (.int .i64 o1), (.int .i64 o2), (.int .i64 o3), o4]), (.int .i64 o0), (.bool v13), .undef, (.ptr b9 0), .undef, (.bool ((o0) == 3)), .undef, .undef, .undef, (.bool ((o0) == 4)), .undef, .undef] H11 (by kernel_rfl) ?_
          refine then_norm ?_
          refine w_ret ?_
          refine block_ret ?_
          refine then_ret ?_
          exact body_ret (vs := [(.int .i64 4)]) _ (by kernel_rfl) rfl h

def rf_deadline_opCodex1 : RFunc := ⟨2, 3, [.var 2],
 ((.seq (.ops [⟨.move (.k (.bool false)), none, (some 2), true⟩])
 ((.seq (.ops [⟨.move (.var 0), none, none, true⟩, ⟨.bin .geq .no (.loc 0) (.k (.int .i64 0)), none, none, true⟩, ⟨.move (.loc 1), none, none, true⟩, ⟨.move (.var 0), none, none, true⟩, ⟨.load none (.var 1), (some (2, true)), none, true⟩, ⟨.bin .lss .no (.loc 3) (.loc 4), (some (2, true)), none, true⟩, ⟨.pick (.loc 2) (.loc 5) (.k (.bool false)), none, none, true⟩, ⟨.move (.loc 6), none, (some 2), true⟩])
 (.ret))))), none⟩
theorem v_deadline_opCodex1 {F : Nat → Option RFunc} {me : Nat} (hF : F me = some (rf_deadline_opCodex1 )) {fl : Nat} {H : Heap} {Q : AV → Heap → Prop} (c0 : Int) (cap1 : AV)
  (h : ((c0 ≥ 0) → ∃ (b2 : Nat) (o3 : Nat), cap1 = .ptr b2 o3 ∧ ∃ (e4 : Int), rload H none b2 o3 = some (.int .i64 e4) ∧ Q (.bool (decide (c0 < e4))) H) ∧ (¬(c0 ≥ 0) → Q (.bool false) H)) : Ret F fl me [(.int .i64 c0), cap1] H Q := by
  refine ret_intro hF rfl ?_
  refine w_seq ?_
  refine w_run [0] ?_
  refine t_done [(.int .i64 c0), cap1, (.bool false)] H (by kernel_rfl) ?_
  refine then_norm ?_
  refine w_seq ?_
  refine w_run [0, 0, 0, 0, 3, 2, 0, 0] ?_
  refine t_gd (decide (c0 ≥ 0)) true (by kernel_rfl) (fun hc => ?_) (fun hc => ?_)
  · replace h := h.1 (is_dec.t hc)
    obtain ⟨b2, o3, rfl, e4, hl, h⟩ := h
    refine t_load true none b2 o3 (.int .i64 e4) H (by kernel_rfl) hl ?_
    refine t_gd true true (by kernel_rfl) (fun _ => ?_) (fun hn => by cases hn)
    refine t_done [(.int .i64 c0), (.ptr b2 o3), (.bool (decide (c0 < e4)))] H (by kernel_rfl) ?_
    refine then_norm ?_
    refine w_ret ?_
    exact body_ret (vs := [(.bool (decide (c0 < e4)))]) _ (by kernel_rfl) rfl h
  · replace h := h.2 (is_dec.f hc)
    refine t_gd false true (by kernel_rfl) (fun hn => by cases hn) (fun _ => ?_)
    refine t_done [(.int .i64 c0), cap1, (.bool false)] H (by kernel_rfl) ?_
    refine then_norm ?_
    refine w_ret ?_
    exact body_ret (vs := [(.bool false)]) _ (by kernel_rfl) rfl h

def rf_deadline_opCodex2 : RFunc := ⟨2, 3, [.var 2],
 ((.seq (.ops [⟨.move (.k (.bool false)), none, (some 2), true⟩])
 ((.seq (.ops [⟨.load none (.var 1), none, none, true⟩, ⟨.move (.var 0), none, none, true⟩, ⟨.call (.loc 0) [(.loc 1)], none, none, true⟩, ⟨.un .not (.loc 2), none, none, true⟩, ⟨.move (.loc 3), none, (some 2), true⟩])
 (.ret))))), none⟩
theorem v_deadline_opCodex2 {F : Nat → Option RFunc} {me : Nat} (hF : F me = some (rf_deadline_opCodex2 )) {fl : Nat} {H : Heap} {Q : AV → Heap → Prop} (c0 : Int) (cap1 : AV)
  (h : ∃ (b2 : Nat) (o3 : Nat), cap1 = .ptr b2 o3 ∧ ∃ (e4 : AV), rload H none b2 o3 = some e4 ∧ ∃ (g5 : Nat) (c6 : List AV), e4 = .func g5 c6 ∧ Ret F fl g5 (([(.int .i64 c0)] : List AV) ++ c6) H (fun v9 H8 => ∃ (r7 : Bool), v9 = (.bool r7) ∧ Q (.bool (!r7)) H8)) : Ret F fl me [(.int .i64 c0), cap1] H Q := by
  refine ret_intro hF rfl ?_
  refine w_seq ?_
  refine w_run [0] ?_
  refine t_done [(.int .i64 c0), cap1, (.bool false)] H (by kernel_rfl) ?_
  refine then_norm ?_
  refine w_seq ?_
  refine w_run [1, 0, 1, 0, 0] ?_
  obtain ⟨b2, o3, rfl, e4, hl, h⟩ := h
  refine t_load true none b2 o3 e4 H (by kernel_rfl) hl ?_
  obtain ⟨g5, c6, rfl, h⟩ := h
  refine t_call true g5 (([(.int .i64 c0)] : List AV) ++ c6) H (by kernel_rfl) h ?_
  clear h
  rintro _ H8 ⟨r7, rfl, h⟩
  refine t_done [(.int .i64 c0), (.ptr b2 o3), (.bool (!r7))] H8 (by kernel_rfl) ?_
  refine then_norm ?_
  refine w_ret ?_
  exact body_ret (vs := [(.bool (!r7))]) _ (by kernel_rfl) rfl h

def rf_deadline_newSystem : RFunc := ⟨2, 10, [.var 2],
 ((.seq (.ops [⟨.move (.k (.nilptr)), none, (some 2), true⟩])
 ((.seq (.ops [⟨.move (.var 0), none, none, true⟩, ⟨.move (.var 0), none, none, true⟩, ⟨.len (.loc 1), none, none, true⟩, ⟨.makeSlice 1 24 [.empty] (.loc 2) (.loc 2), none, none, true⟩, ⟨.build [.empty, .empty, .empty, .empty, .int .i64 0] [(0, 1, (.loc 0)), (1, 1, (.loc 3))], none, none, true⟩, ⟨.box 1 (.loc 4), none, none, true⟩, ⟨.move (.loc 5), none, (some 7), true⟩])
 ((.seq ((.seq (.ops [⟨.move (.var 1), none, (some 6), true⟩, ⟨.len (.loc 0), none, (some 4), true⟩, ⟨.move (.k (.int .i64 0)), none, (some 3), true⟩])
 (.block 0 (.loop ((.seq (.ops [⟨.bin .lss .no (.var 3) (.var 4), none, (some 5), true⟩])
 ((.seq (.cond (.var 5) (.skip) (.exit 0))
 ((.seq (.block 1 ((.seq (.ops [⟨.move (.var 3), none, none, true⟩, ⟨.indexAddr 1 (.var 6) (.var 3), none, none, true⟩, ⟨.load none (.loc 1), none, none, true⟩, ⟨.move (.loc 0), none, (some 8), true⟩, ⟨.move (.loc 2), none, (some 9), true⟩])
 (.ops [⟨.move (.var 7), none, none, true⟩, ⟨.move (.var 7), none, none, true⟩, ⟨.nilCheck (.loc 1), none, none, true⟩, ⟨.fieldAddr 2 (.loc 2), none, none, true⟩, ⟨.load none (.loc 3), none, none, true⟩, ⟨.move (.var 8), none, none, true⟩, ⟨.move (.var 9), none, none, true⟩, ⟨.build [.int .i64 0, .int .i64 0, .empty] [(0, 1, (.loc 5)), (2, 1, (.loc 6))], none, none, true⟩, ⟨.box 1 (.loc 7), none, none, true⟩, ⟨.buildSlice 1 [.nilptr] [(0, 1, (.loc 8))] 1, none, none, true⟩, ⟨.append 1 8 (.loc 4) (.loc 9), none, none, true⟩, ⟨.nilCheck (.loc 0), none, none, true⟩, ⟨.fieldAddr 2 (.loc 11), none, none, true⟩, ⟨.store 1 (.loc 12) (.loc 10) [], none, none, true⟩]))))
 (.ops [⟨.bin .add .no (.var 3) (.k (.int .i64 1)), none, none, true⟩, ⟨.move (.loc 0), none, (some 3), true⟩])))))))))))
 ((.seq (.ops [⟨.move (.var 7), none, none, true⟩, ⟨.move (.loc 0), none, (some 2), true⟩])
 (.ret))))))))), none⟩
theorem v_deadline_newSystem {F : Nat → Option RFunc} {me : Nat} (hF : F me = some (rf_deadline_newSystem )) {fl : Nat} {H : Heap} {Q : AV → Heap → Prop} (capacities0 : AV) (scripts1 : AV)
  (h : ∃ len2 : Nat, lenA capacities0 = some len2 ∧ (0 ≤ (len2 : Int) ∧ (len2 : Int) ≤ (len2 : Int) ∧ (24 : Int) * (len2 : Int) ≤ 2 ^ 47 ∧ (len2 : Int) < 2 ^ 62) ∧ ∀ (b3 : Nat) (H4 : Heap), NewB H 1 (zeros (Int.toNat (len2 : Int)) [.empty]) b3 H4 → Scal capacities0 ∧ ∀ (b6 : Nat) (H7 : Heap), NewB H4 1 [capacities0, (.slice b3 0 (Int.toNat (len2 : Int)) (some (Int.toNat (len2 : Int)))), .empty, .empty, (.int .i64 0)] b6 H7 → ∃ len8 : Nat, lenA scripts1 = some len8 ∧ ∃ (J9 : Nat → Int → Heap → Prop) (k10 : Nat), J9 k10 0 H7 ∧ (∀ (m11 : Nat) (v12 : Int) (H16 : Heap), J9 m11 v12 H16 → ((v12 < (len8 : Int)) → ∃ (e17 : AV), getA H16 1 none scripts1 v12 0 = some e17 ∧ ∃ (e19 : AV), rload H16 none b6 (0 + 2) = some e19 ∧ Scal e17 ∧ ∀ (b21 : Nat) (H22 : Heap), NewB H16 1 [(.int .i64 v12), (.int .i64 0), e17] b21 H22 → ∀ (b23 : Nat) (H24 : Heap), NewB H22 1 [(.ptr b21 0)] b23 H24 → ∃ (a25 : AV) (H26 : Heap), appA fl true 1 8 H24 e19 (.slice b23 0 1 (some 1)) = some (a25, H26) ∧ ∃ H27 : Heap, putA fl H26 b6 (0 + 2) 1 a25 = some H27 ∧ ∃ m28 : Nat, m28 < m11 ∧ J9 m28 (IntKind.wrap .i64 (v12 + 1)) H27) ∧ (¬(v12 < (len8 : Int)) → Q (.ptr b6 0) H16))) : Ret F fl me [capacities0, scripts1] H Q := by
  refine ret_intro hF rfl ?_
  refine w_seq ?_
  refine w_run [0] ?_
  refine t_done [capacities0, scripts1, .nilptr, .undef, .undef, .undef, .undef, .undef, .undef, .undef] H (by kernel_rfl) ?_
  refine then_norm ?_
  refine w_seq ?_
  refine w_run [0, 0, 1, 1, 1, 1, 0] ?_
  obtain ⟨len2, hl, h⟩ := h
  refine t_len true capacities0 len2 H (by kernel_rfl) hl ?_
  obtain ⟨hc, h⟩ := h
  obtain ⟨b3, H4, hb⟩ : ∃ b H', NewB H 1 (zeros (Int.toNat (len2 : Int)) [.empty]) b H' := ⟨_, _, rfl, rfl⟩
  replace h := h b3 H4 hb
  refine t_make true 1 24 [.empty] (len2 : Int) (len2 : Int) b3 H4 H (by kernel_rfl) hc hb ?_
  obtain ⟨hs5, h⟩ := h
  refine t_build true [.empty, .empty, .empty, .empty, (.int .i64 0)] [(0, 1, .loc 0), (1, 1, .loc 1)] [capacities0, (.slice b3 0 (Int.toNat (len2 : Int)) (some (Int.toNat (len2 : Int))))] [capacities0, (.slice b3 0 (Int.toNat (len2 : Int)) (some (Int.toNat (len2 : Int)))), .empty, .empty, (.int .i64 0)] H4 (by kernel_rfl) (fill_c (vs := [capacities0]) (size := 1) hs5.1 (by kernel_rfl) (by kernel_rfl) (fill_c (vs := [(.slice b3 0 (Int.toNat (len2 : Int)) (some (Int.toNat (len2 : Int))))]) (size := 1) rfl (by kernel_rfl) (by kernel_rfl) (by kernel_rfl))) ?_
  obtain ⟨b6, H7, hb⟩ : ∃ b H', NewB H4 1 [capacities0, (.slice b3 0 (Int.toNat (len2 : Int)) (some (Int.toNat (len2 : Int)))), .empty, .empty, (.int .i64 0)] b H' := ⟨_, _, rfl, rfl⟩
  replace h := h b6 H7 hb
  refine t_box true 1 (.agg [capacities0, (.slice b3 0 (Int.toNat (len2 : Int)) (some (Int.toNat (len2 : Int)))), .empty, .empty, (.int .i64 0)]) [capacities0, (.slice b3 0 (Int.toNat (len2 : Int)) (some (Int.toNat (len2 : Int)))), .empty, .empty, (.int .i64 0)] b6 H7 H4 (by kernel_rfl) rfl hb ?_
  refine t_done [capacities0, scripts1, .nilptr, .undef, .undef, .undef, .undef, (.ptr b6 0), .undef, .undef] H7 (by kernel_rfl) ?_
  refine then_norm ?_
  refine w_seq ?_
  refine w_seq ?_
  refine w_run [0, 1, 0] ?_
  obtain ⟨len8, hl, h⟩ := h
  refine t_len true scripts1 len8 H7 (by kernel_rfl) hl ?_
  refine t_done [capacities0, scripts1, .nilptr, (.int .i64 0), (.int .i64 (len8 : Int)), .undef, scripts1, (.ptr b6 0), .undef, .undef] H7 (by kernel_rfl) ?_
  refine then_norm ?_
  refine w_block ?_
  obtain ⟨J9, k10, h0, h⟩ := h
  refine w_loop (I := fun mI EI HI => ∃ (v12 : Int) (d13 : AV) (d14 : AV) (d15 : AV), EI = [capacities0, scripts1, .nilptr, (.int .i64 v12), (.int .i64 (len8 : Int)), d13, scripts1, (.ptr b6 0), d14, d15] ∧ J9 mI v12 HI) ?_ k10 ⟨_, _, _, _, rfl, h0⟩
  clear h0
  rintro m11 EI H16 ⟨v12, d13, d14, d15, rfl, hJ⟩
  replace h := h m11 v12 H16 hJ
  clear hJ
  refine w_seq ?_
  refine w_run [0] ?_
  refine t_done [capacities0, scripts1, .nilptr, (.int .i64 v12), (.int .i64 (len8 : Int)), (.bool (decide (v12 < (len8 : Int)))), scripts1, (.ptr b6 0), d14, d15] H16 (by kernel_rfl) ?_
  refine then_norm ?_
  refine w_seq ?_
  refine w_cond (t := (decide (v12 < (len8 : Int)))) rfl (fun hc => ?_) (fun hc => ?_)
  · replace h := h.1 (is_dec.t hc)
    refine w_skip ?_
    refine then_norm ?_
    refine w_seq ?_
    refine w_block ?_
    refine w_seq ?_
    refine w_run [0, 1, 1, 0, 0] ?_
    obtain ⟨e17, hg18, h⟩ := h
    refine t_idxG true 1 scripts1 .i64 v12 H16 (by kernel_rfl) hg18 ?_
    refine t_loadG true none 1 scripts1 v12 0 e17 H16 (by kernel_rfl) hg18 ?_
    refine t_done [capacities0, scripts1, .nilptr, (.int .i64 v12), (.int .i64 (len8 : Int)), (.bool (decide (v12 < (len8 : Int)))), scripts1, (.ptr b6 0), (.int .i64 v12), e17] H16 (by kernel_rfl) ?_
    refine then_norm ?_
    refine w_run [0, 0, 1, 1, 1, 0, 0, 1, 1, 1, 1, 1, 1, 1] ?_
    refine t_ptr true b6 0 H16 (by kernel_rfl) ?_
    refine t_op true (.fieldAddr 2 (.loc 0)) [.ptr b6 0] H16 (.ptr b6 (0 + 2)) H16 (by kernel_rfl) rfl ?_
    obtain ⟨e19, hl, h⟩ := h
    refine t_load true none b6 (0 + 2) e19 H16 (by kernel_rfl) hl ?_
    obtain ⟨hs20, h⟩ := h
    refine t_build true [(.int .i64 0), (.int .i64 0), .empty] [(0, 1, .loc 0), (2, 1, .loc 1)] [(.int .i64 v12), e17] [(.int .i64 v12), (.int .i64 0), e17] H16 (by kernel_rfl) (fill_c (vs := [(.int .i64 v12)]) (size := 1) rfl (by kernel_rfl) (by kernel_rfl) (fill_c (vs := [e17]) (size := 1) hs20.1 (by kernel_rfl) (by kernel_rfl) (by kernel_rfl))) ?_
    obtain ⟨b21, H22, hb⟩ : ∃ b H', NewB H16 1 [(.int .i64 v12), (.int .i64 0), e17] b H' := ⟨_, _, rfl, rfl⟩
    replace h := h b21 H22 hb
    refine t_box true 1 (.agg [(.int .i64 v12), (.int .i64 0), e17]) [(.int .i64 v12), (.int .i64 0), e17] b21 H22 H16 (by kernel_rfl) rfl hb ?_
    obtain ⟨b23, H24, hb⟩ : ∃ b H', NewB H22 1 [(.ptr b21 0)] b H' := ⟨_, _, rfl, rfl⟩
    replace h := h b23 H24 hb
    refine t_bs true 1 [.nilptr] [(0, 1, .loc 0)] 1 [(.ptr b21 0)] [(.ptr b21 0)] b23 H24 H22 (by kernel_rfl) (fill_c (vs := [(.ptr b21 0)]) (size := 1) rfl (by kernel_rfl) (by kernel_rfl) (by kernel_rfl)) hb ?_
    obtain ⟨a25, H26, ha, h⟩ := h
    refine t_app true 1 8 e19 (.slice b23 0 1 (some 1)) a25 H26 H24 (by kernel_rfl) ha ?_
    refine t_ptr true b6 0 H26 (by kernel_rfl) ?_
    refine t_op true (.fieldAddr 2 (.loc 0)) [.ptr b6 0] H26 (.ptr b6 (0 + 2)) H26 (by kernel_rfl) rfl ?_
    obtain ⟨H27, hp, h⟩ := h
    refine t_store true 1 b6 (0 + 2) a25 H27 H26 (by kernel_rfl) hp ?_
    refine t_done [capacities0, scripts1, .nilptr, (.int .i64 v12), (.int .i64 (len8 : Int)), (.bool (decide (v12 < (len8 : Int)))), scripts1, (.ptr b6 0), (.int .i64 v12), e17] H27 (by kernel_rfl) ?_
    refine block_norm ?_
    refine then_norm ?_
    refine w_run [0, 0] ?_
    refine t_done [capacities0, scripts1, .nilptr, (.int .i64 (IntKind.wrap .i64 (v12 + 1))), (.int .i64 (len8 : Int)), (.bool (decide (v12 < (len8 : Int)))), scripts1, (.ptr b6 0), (.int .i64 v12), e17] H27 (by kernel_rfl) ?_
    obtain ⟨m', hm, h⟩ := h
    refine loop_norm ⟨m', hm, _, _, _, _, rfl, h⟩
  · replace h := h.2 (is_dec.f hc)
    refine w_exit ?_
    refine then_exit ?_
    refine loop_exit ?_
    refine block_exit ?_
    refine then_norm ?_
    refine w_seq ?_
    refine w_run [0, 0] ?_
    refine t_done [capacities0, scripts1, (.ptr b6 0), (.int .i64 v12), (.int .i64 (len8 : Int)), (.bool (decide (v12 < (len8 : Int)))), scripts1, (.ptr b6 0), d14, d15] H16 (by kernel_rfl) ?_
    refine then_norm ?_
    refine w_ret ?_
    exact body_ret (vs := [(.ptr b6 0)]) _ (by kernel_rfl) rfl h

def rf_deadline_system_step (nslices_Clone__deadline_process_deadline_process nslices_SortStableFunc__deadline_process_deadline_process ndeadline_system_stepx1 ndeadline_system_try : Nat) : RFunc := ⟨1, 15, [.var 1],
 ((.seq (.ops [⟨.move (.k (.bool false)), none, (some 1), true⟩])
 ((.seq (.ops [⟨.move (.var 0), none, none, true⟩, ⟨.nilCheck (.loc 0), none, none, true⟩, ⟨.fieldAddr 2 (.loc 1), none, none, true⟩, ⟨.load none (.loc 2), none, none, true⟩, ⟨.callS nslices_Clone__deadline_process_deadline_process [(.loc 3)], none, none, true⟩, ⟨.move (.loc 4), none, (some 2), true⟩])
 ((.seq (.ops [⟨.move (.var 2), none, none, true⟩, ⟨.callS nslices_SortStableFunc__deadline_process_deadline_process [(.loc 0), (.k (.func ndeadline_system_stepx1 []))], none, none, true⟩])
 ((.seq (.ops [⟨.move (.k (.bool false)), none, (some 10), true⟩])
 ((.seq ((.seq (.ops [⟨.move (.var 2), none, (some 6), true⟩, ⟨.len (.loc 0), none, (some 4), true⟩, ⟨.move (.k (.int .i64 0)), none, (some 3), true⟩])
 (.block 0 (.loop ((.seq (.ops [⟨.bin .lss .no (.var 3) (.var 4), none, (some 5), true⟩])
 ((.seq (.cond (.var 5) (.skip) (.exit 0))
 ((.seq (.block 1 ((.seq (.ops [⟨.indexAddr 1 (.var 6) (.var 3), none, none, true⟩, ⟨.load none (.loc 0), none, none, true⟩, ⟨.move (.loc 1), none, (some 7), true⟩])
 ((.seq ((.seq (.ops [⟨.move (.var 7), none, none, true⟩, ⟨.nilCheck (.loc 0), none, none, true⟩, ⟨.fieldAddr 2 (.loc 1), none, none, true⟩, ⟨.load none (.loc 2), none, none, true⟩, ⟨.len (.loc 3), none, none, true⟩, ⟨.bin .eql .no (.loc 4) (.k (.int .i64 0)), none, (some 8), true⟩])
 (.cond (.var 8) (.exit 1) (.skip))))
 ((.seq (.ops [⟨.move (.var 7), none, none, true⟩, ⟨.nilCheck (.loc 0), none, none, true⟩, ⟨.fieldAddr 2 (.loc 1), none, none, true⟩, ⟨.load none (.loc 2), none, none, true⟩, ⟨.indexAddr 5 (.loc 3) (.k (.int .i64 0)), none, none, true⟩, ⟨.load (some 5) (.loc 4), none, none, true⟩, ⟨.tomb 1 (.k (.agg [.int .i64 0, .int .i64 0, .int .i64 0, .int .i64 0, .empty])), none, (some 9), true⟩, ⟨.upd 5 0 (.loc 6) (.loc 5), none, (some 9), true⟩])
 ((.seq (.ops [⟨.move (.var 0), none, none, false⟩, ⟨.field 0 (some 5) (.var 9), none, none, false⟩, ⟨.move (.var 0), none, none, false⟩, ⟨.nilCheck (.loc 2), none, none, false⟩, ⟨.fieldAddr 4 (.loc 3), none, none, false⟩, ⟨.load none (.loc 4), none, none, false⟩, ⟨.move (.var 7), none, none, false⟩, ⟨.nilCheck (.loc 6), none, none, false⟩, ⟨.fieldAddr 1 (.loc 7), none, none, false⟩, ⟨.load none (.loc 8), none, none, false⟩, ⟨.bin .sub .no (.loc 5) (.loc 9), none, none, false⟩, ⟨.callS ndeadline_system_try [(.loc 0), (.loc 1), (.loc 10)], none, none, true⟩, ⟨.move (.loc 11), none, none, true⟩, ⟨.extract (.loc 12) 0, none, none, true⟩, ⟨.extract (.loc 12) 1, none, none, true⟩, ⟨.extract (.loc 12) 2, none, none, true⟩, ⟨.move (.loc 13), none, (some 13), true⟩, ⟨.move (.loc 14), none, (some 14), true⟩, ⟨.move (.loc 15), none, (some 11), true⟩])
 ((.seq (.ops [⟨.move (.var 10), none, none, true⟩, ⟨.move (.loc 0), none, none, true⟩, ⟨.move (.var 11), none, none, true⟩, ⟨.pick (.loc 1) (.k (.bool true)) (.loc 2), none, none, true⟩, ⟨.move (.loc 3), none, none, true⟩, ⟨.field 0 none (.var 9), none, none, true⟩, ⟨.field 0 none (.var 9), none, none, true⟩, ⟨.bin .eql .no (.loc 6) (.k (.int .i64 4)), none, none, true⟩, ⟨.pick (.loc 4) (.k (.bool true)) (.loc 7), none, none, true⟩, ⟨.move (.loc 8), none, none, true⟩, ⟨.field 0 none (.var 9), none, none, true⟩, ⟨.field 0 none (.var 9), none, none, true⟩, ⟨.bin .eql .no (.loc 11) (.k (.int .i64 3)), none, none, true⟩, ⟨.move (.loc 12), none, none, true⟩, ⟨.field 0 none (.var 9), none, none, true⟩, ⟨.field 3 none (.var 9), none, none, true⟩, ⟨.bin .geq .no (.loc 15) (.k (.int .i64 0)), none, none, true⟩, ⟨.pick (.loc 13) (.loc 16) (.k (.bool false)), none, none, true⟩, ⟨.pick (.loc 9) (.k (.bool true)) (.loc 17), none, none, true⟩, ⟨.move (.loc 18), none, (some 10), true⟩])
 ((.seq (.ops [⟨.move (.var 11), none, (some 12), true⟩])
 (.cond (.var 12) ((.seq (.ops [⟨.move (.var 0), none, none, false⟩, ⟨.move (.var 0), none, none, false⟩, ⟨.nilCheck (.loc 1), none, none, false⟩, ⟨.fieldAddr 3 (.loc 2), none, none, false⟩, ⟨.load none (.loc 3), none, none, false⟩, ⟨.move (.var 0), none, none, false⟩, ⟨.nilCheck (.loc 5), none, none, false⟩, ⟨.fieldAddr 4 (.loc 6), none, none, false⟩, ⟨.load none (.loc 7), none, none, false⟩, ⟨.move (.var 7), none, none, false⟩, ⟨.nilCheck (.loc 9), none, none, false⟩, ⟨.fieldAddr 0 (.loc 10), none, none, false⟩, ⟨.load none (.loc 11), none, none, false⟩, ⟨.move (.var 13), none, none, false⟩, ⟨.move (.var 14), none, none, false⟩, ⟨.build [.int .i64 0, .int .i64 0, .int .i64 0, .int .i64 0] [(0, 1, (.loc 8)), (1, 1, (.loc 12)), (2, 1, (.loc 13)), (3, 1, (.loc 14))], none, none, false⟩, ⟨.buildSlice 4 [.int .i64 0, .int .i64 0, .int .i64 0, .int .i64 0] [(0, 4, (.loc 15))] 1, none, none, false⟩, ⟨.append 4 32 (.loc 4) (.loc 16), none, none, true⟩, ⟨.nilCheck (.loc 0), none, none, true⟩, ⟨.fieldAddr 3 (.loc 18), none, none, true⟩, ⟨.store 1 (.loc 19) (.loc 17) [], none, none, true⟩])
 (.ops [⟨.move (.var 7), none, none, false⟩, ⟨.move (.var 7), none, none, false⟩, ⟨.move (.var 7), none, none, false⟩, ⟨.nilCheck (.loc 2), none, none, false⟩, ⟨.fieldAddr 2 (.loc 3), none, none, false⟩, ⟨.load none (.loc 4), none, none, false⟩, ⟨.slice 5 (.loc 5) (some (.k (.int .i64 1))) none none, none, none, false⟩, ⟨.move (.var 0), none, none, false⟩, ⟨.nilCheck (.loc 7), none, none, false⟩, ⟨.fieldAddr 4 (.loc 8), none, none, false⟩, ⟨.load none (.loc 9), none, none, false⟩, ⟨.bin .add .no (.loc 10) (.k (.int .i64 1)), none, none, false⟩, ⟨.nilCheck (.loc 0), none, none, true⟩, ⟨.fieldAddr 2 (.loc 12), none, none, true⟩, ⟨.store 1 (.loc 13) (.loc 6) [], none, none, true⟩, ⟨.nilCheck (.loc 1), none, none, true⟩, ⟨.fieldAddr 1 (.loc 15), none, none, true⟩, ⟨.store 1 (.loc 16) (.loc 11) [], none, none, true⟩]))) (.skip)))))))))))))))
 (.ops [⟨.bin .add .no (.var 3) (.k (.int .i64 1)), none, none, true⟩, ⟨.move (.loc 0), none, (some 3), true⟩])))))))))))
 ((.seq (.ops [⟨.move (.var 0), none, none, true⟩, ⟨.nilCheck (.loc 0), none, none, true⟩, ⟨.fieldAddr 4 (.loc 1), none, none, true⟩, ⟨.load none (.loc 2), none, none, true⟩, ⟨.bin .add .no (.loc 3) (.k (.int .i64 1)), none, none, true⟩, ⟨.nilCheck (.loc 0), none, none, true⟩, ⟨.fieldAddr 4 (.loc 5), none, none, true⟩, ⟨.store 1 (.loc 6) (.loc 4) [], none, none, true⟩])
 ((.seq (.ops [⟨.move (.var 10), none, none, true⟩, ⟨.move (.loc 0), none, (some 1), true⟩])
 (.ret))))))))))))))), none⟩
theorem v_deadline_system_step {F : Nat → Option RFunc} {me nslices_Clone__deadline_process_deadline_process nslices_SortStableFunc__deadline_process_deadline_process ndeadline_system_stepx1 ndeadline_system_try : Nat} (hF : F me = some (rf_deadline_system_step nslices_Clone__deadline_process_deadline_process nslices_SortStableFunc__deadline_process_deadline_process ndeadline_system_stepx1 ndeadline_system_try)) {fl : Nat} {H : Heap} {Q : AV → Heap → Prop} (sb0 : Nat) (so1 : Nat)
  (h : ∃ (e2 : AV), rload H none sb0 (so1 + 2) = some e2 ∧ Ret F fl nslices_Clone__deadline_process_deadline_process [e2] H (fun r3 H4 => Ret F fl nslices_SortStableFunc__deadline_process_deadline_process [r3, (.func ndeadline_system_stepx1 [])] H4 (fun v7 H6 => v7 = .undef ∧ ∃ len8 : Nat, lenA r3 = some len8 ∧ ∃ (J9 : Nat → Int → Bool → Heap → Prop) (k10 : Nat), J9 k10 0 false H6 ∧ (∀ (m11 : Nat) (v12 : Int) (live17 : Bool) (H22 : Heap), J9 m11 v12 live17 H22 → ((v12 < (len8 : Int)) → ∃ (e23 : AV), getA H22 1 none r3 v12 0 = some e23 ∧ ∃ b25 o26 : Nat, e23 = .ptr b25 o26 ∧ ∃ (e27 : AV), rload H22 none b25 (o26 + 2) = some e27 ∧ ∃ len28 : Nat, lenA e27 = some len28 ∧ (((len28 : Int) = 0) → ∃ m29 : Nat, m29 < m11 ∧ J9 m29 (IntKind.wrap .i64 (v12 + 1)) live17 H22) ∧ (¬((len28 : Int) = 0) → ∃ (e30 : AV), rload H22 none b25 (o26 + 2) = some e30 ∧ ∃ (e31 : Int) (e32 : Int) (e33 : Int) (e34 : Int) (e35 : AV), getA H22 5 (some 5) e30 0 0 = some (.agg [(.int .i64 e31), (.int .i64 e32), (.int .i64 e33), (.int .i64 e34), e35]) ∧ ∀ (H37 : Heap), Dead1 H22 1 H37 → Scal e35 ∧ ∃ (e39 : Int), rload H37 none sb0 (so1 + 4) = some (.int .i64 e39) ∧ ∃ (e40 : Int), rload H37 none b25 (o26 + 1) = some (.int .i64 e40) ∧ Ret F fl ndeadline_system_try [(.ptr sb0 so1), (.agg [(.int .i64 e31), (.int .i64 e32), (.int .i64 e33), (.int .i64 e34), e35]), (.int .i64 (IntKind.wrap .i64 (e39 - e40)))] H37 (fun v45 H44 => ∃ (r41 : Int) (r42 : Int) (r43 : Bool), v45 = (.tuple [(.int .i64 r41), (.int .i64 r42), (.bool r43)]) ∧ ((r43 = true) → ∃ (e46 : AV), rload H44 none sb0 (so1 + 3) = some e46 ∧ ∃ (e47 : Int), rload H44 none sb0 (so1 + 4) = some (.int .i64 e47) ∧ ∃ (e48 : Int), rload H44 none b25 o26 = some (.int .i64 e48) ∧ ∀ (b49 : Nat) (H50 : Heap), NewB H44 4 [(.int .i64 e47), (.int .i64 e48), (.int .i64 r41), (.int .i64 r42)] b49 H50 → ∃ (a51 : AV) (H52 : Heap), appA fl true 4 32 H50 e46 (.slice b49 0 1 (some 1)) = some (a51, H52) ∧ ∃ H53 : Heap, putA fl H52 sb0 (so1 + 3) 1 a51 = some H53 ∧ ∃ (e54 : AV), rload H53 none b25 (o26 + 2) = some e54 ∧ ∃ s55 : AV, rslice H53 5 e54 (some (.int .i64 1)) none none = some s55 ∧ ∃ (e56 : Int), rload H53 none sb0 (so1 + 4) = some (.int .i64 e56) ∧ ∃ H57 : Heap, putA fl H53 b25 (o26 + 2) 1 s55 = some H57 ∧ ∃ H58 : Heap, putA fl H57 b25 (o26 + 1) 1 (.int .i64 (IntKind.wrap .i64 (e56 + 1))) = some H58 ∧ ∃ m59 : Nat, m59 < m11 ∧ J9 m59 (IntKind.wrap .i64 (v12 + 1)) (((live17 || r43) || ((e31) == 4)) || (((e31) == 3) && (decide (e34 ≥ 0)))) H58) ∧ (¬(r43 = true) → ∃ m60 : Nat, m60 < m11 ∧ J9 m60 (IntKind.wrap .i64 (v12 + 1)) (((live17 || r43) || ((e31) == 4)) || (((e31) == 3) && (decide (e34 ≥ 0)))) H44)))) ∧ (¬(v12 < (len8 : Int)) → ∃ (e61 : Int), rload H22 none sb0 (so1 + 4) = some (.int .i64 e61) ∧ ∃ H62 : Heap, putA fl H22 sb0 (so1 + 4) 1 (.int .i64 (IntKind.wrap .i64 (e61 + 1))) = some H62 ∧ Q (.bool live17) H62))))) : Ret F fl me [(.ptr sb0 so1)] H Q := by
  refine ret_intro hF rfl ?_
  refine w_seq ?_
  refine w_run [0] ?_
  refine t_done [(.ptr sb0 so1), (.bool false), .undef, .undef, .undef, .undef, .undef, .undef, .undef, .undef, .undef, .undef, .undef, .undef, .undef] H (by kernel_rfl) ?_
  refine then_norm ?_
  refine w_seq ?_
  refine w_run [0, 1, 1, 1, 1, 0] ?_
  refine t_ptr true sb0 so1 H (by kernel_rfl) ?_
  refine t_op true (.fieldAddr 2 (.loc 0)) [.ptr sb0 so1] H (.ptr sb0 (so1 + 2)) H (by kernel_rfl) rfl ?_
  obtain ⟨e2, hl, h⟩ := h
  refine t_load true none sb0 (so1 + 2) e2 H (by kernel_rfl) hl ?_
  refine t_call true nslices_Clone__deadline_process_deadline_process [e2] H (by kernel_rfl) h ?_
  clear h
  rintro r3 H4 h
  refine t_done [(.ptr sb0 so1), (.bool false), r3, .undef, .undef, .undef, .undef, .undef, .undef, .undef, .undef, .undef, .undef, .undef, .undef] H4 (by kernel_rfl) ?_
  refine then_norm ?_
  refine w_seq ?_
  refine w_run [0, 1] ?_
  refine t_call true nslices_SortStableFunc__deadline_process_deadline_process [r3, (.func ndeadline_system_stepx1 [])] H4 (by kernel_rfl) h ?_
  clear h
  rintro _ H6 ⟨rfl, h⟩
  refine t_done [(.ptr sb0 so1), (.bool false), r3, .undef, .undef, .undef, .undef, .undef, .undef, .undef, .undef, .undef, .undef, .undef, .undef] H6 (by kernel_rfl) ?_
  refine then_norm ?_
  refine w_seq ?_
  refine w_run [0] ?_
  refine t_done [(.ptr sb0 so1), (.bool false), r3, .undef, .undef, .undef, .undef, .undef, .undef, .undef, (.bool false), .undef, .undef, .undef, .undef] H6 (by kernel_rfl) ?_
  refine then_norm ?_
  refine w_seq ?_
  refine w_seq ?_
  refine w_run [0, 1, 0] ?_
  obtain ⟨len8, hl, h⟩ := h
  refine t_len true r3 len8 H6 (by kernel_rfl) hl ?_
  refine t_done [(.ptr sb0 so1), (.bool false), r3, (.int .i64 0), (.int .i64 (len8 : Int)), .undef, r3, .undef, .undef, .undef, (.bool false), .undef, .undef, .undef, .undef] H6 (by kernel_rfl) ?_
  refine then_norm ?_
  refine w_block ?_
  obtain ⟨J9, k10, h0, h⟩ := h
  refine w_loop (I := fun mI EI HI => ∃ (v12 : Int) (d13 : AV) (d14 : AV) (d15 : AV) (d16 : AV) (live17 : Bool) (d18 : AV) (d19 : AV) (d20 : AV) (d21 : AV), EI = [(.ptr sb0 so1), (.bool false), r3, (.int .i64 v12), (.int .i64 (len8 : Int)), d13, r3, d14, d15, d16, (.bool live17), d18, d19, d20, d21] ∧ J9 mI v12 live17 HI) ?_ k10 ⟨_, _, _, _, _, _, _, _, _, _, rfl, h0⟩
  clear h0
  rintro m11 EI H22 ⟨v12, d13, d14, d15, d16, live17, d18, d19, d20, d21, rfl, hJ⟩
  replace h := h m11 v12 live17 H22 hJ
  clear hJ
  refine w_seq ?_
  refine w_run [0] ?_
  refine t_done [(.ptr sb0 so1), (.bool false), r3, (.int .i64 v12), (.int .i64 (len8 : Int)), (.bool (decide (v12 < (len8 : Int)))), r3, d14, d15, d16, (.bool live17), d18, d19, d20, d21] H22 (by kernel_rfl) ?_
  refine then_norm ?_
  refine w_seq ?_
  refine w_cond (t := (decide (v12 < (len8 : Int)))) rfl (fun hc => ?_) (fun hc => ?_)
  · replace h := h.1 (is_dec.t hc)
    refine w_skip ?_
    refine then_norm ?_
    refine w_seq ?_
    refine w_block ?_
    refine w_seq ?_
    refine w_run [1, 1, 0] ?_
    obtain ⟨e23, hg24, h⟩ := h
    refine t_idxG true 1 r3 .i64 v12 H22 (by kernel_rfl) hg24 ?_
    refine t_loadG true none 1 r3 v12 0 e23 H22 (by kernel_rfl) hg24 ?_
    refine t_done [(.ptr sb0 so1), (.bool false), r3, (.int .i64 v12), (.int .i64 (len8 : Int)), (.bool (decide (v12 < (len8 : Int)))), r3, e23, d15, d16, (.bool live17), d18, d19, d20, d21] H22 (by kernel_rfl) ?_
    refine then_norm ?_
    refine w_seq ?_
    refine w_seq ?_
    refine w_run [0, 1, 1, 1, 1, 0] ?_
    obtain ⟨b25, o26, rfl, h⟩ := h
    refine t_ptr true b25 o26 H22 (by kernel_rfl) ?_
    refine t_op true (.fieldAddr 2 (.loc 0)) [.ptr b25 o26] H22 (.ptr b25 (o26 + 2)) H22 (by kernel_rfl) rfl ?_
    obtain ⟨e27, hl, h⟩ := h
    refine t_load true none b25 (o26 + 2) e27 H22 (by kernel_rfl) hl ?_
    obtain ⟨len28, hl, h⟩ := h
    refine t_len true e27 len28 H22 (by kernel_rfl) hl ?_
    refine t_done [(.ptr sb0 so1), (.bool false), r3, (.int .i64 v12), (.int .i64 (len8 : Int)), (.bool (decide (v12 < (len8 : Int)))), r3, (.ptr b25 o26), (.bool (((len28 : Int)) == 0)), d16, (.bool live17), d18, d19, d20, d21] H22 (by kernel_rfl) ?_
    refine then_norm ?_
    refine w_cond (t := (((len28 : Int)) == 0)) rfl (fun hc => ?_) (fun hc => ?_)
    · replace h := h.1 (is_eq.t hc)
      refine w_exit ?_
      refine then_exit ?_
      refine block_exit ?_
      refine then_norm ?_
      refine w_run [0, 0] ?_
      refine t_done [(.ptr sb0 so1), (.bool false), r3, (.int .i64 (IntKind.wrap .i64 (v12 + 1))), (.int .i64 (len8 : Int)), (.bool (decide (v12 < (len8 : Int)))), r3, (.ptr b25 o26), (.bool (((len28 : Int)) == 0)), d16, (.bool live17), d18, d19, d20, d21] H22 (by kernel_rfl) ?_
      obtain ⟨m', hm, h⟩ := h
      refine loop_norm ⟨m', hm, _, _, _, _, _, _, _, _, _, _, rfl, h⟩
    · replace h := h.2 (is_eq.f hc)
      refine w_skip ?_
      refine then_norm ?_
      refine w_seq ?_
      refine w_run [0, 1, 1, 1, 1, 1, 1, 1] ?_
      refine t_ptr true b25 o26 H22 (by kernel_rfl) ?_
      refine t_op true (.fieldAddr 2 (.loc 0)) [.ptr b25 o26] H22 (.ptr b25 (o26 + 2)) H22 (by kernel_rfl) rfl ?_
      obtain ⟨e30, hl, h⟩ := h
      refine t_load true none b25 (o26 + 2) e30 H22 (by kernel_rfl) hl ?_
      obtain ⟨e31, e32, e33, e34, e35, hg36, h⟩ := h
      refine t_idxG true 5 e30 .i64 0 H22 (by kernel_rfl) hg36 ?_
      refine t_loadG true (some 5) 5 e30 0 0 (.agg [(.int .i64 e31), (.int .i64 e32), (.int .i64 e33), (.int .i64 e34), e35]) H22 (by kernel_rfl) hg36 ?_
      obtain ⟨H37, hb⟩ : ∃ H', Dead1 H22 1 H' := ⟨_, ⟨rfl⟩⟩
      replace h := h H37 hb
      refine t_tomb true 1 (.agg [(.int .i64 0), (.int .i64 0), (.int .i64 0), (.int .i64 0), .empty]) [(.int .i64 0), (.int .i64 0), (.int .i64 0), (.int .i64 0), .empty] H37 H22 (by kernel_rfl) rfl hb ?_
      obtain ⟨hs38, h⟩ := h
      refine t_upd true 5 0 [(.int .i64 0), (.int .i64 0), (.int .i64 0), (.int .i64 0), .empty] (.agg [(.int .i64 e31), (.int .i64 e32), (.int .i64 e33), (.int .i64 e34), e35]) [(.int .i64 e31), (.int .i64 e32), (.int .i64 e33), (.int .i64 e34), e35] [(.int .i64 e31), (.int .i64 e32), (.int .i64 e33), (.int .i64 e34), e35] H37 (by kernel_rfl) rfl (all_c rfl (all_c rfl (all_c rfl (all_c rfl (all_c hs38.2 all_n))))) ⟨rfl, Nat.le_of_ble_eq_true (by kernel_rfl), rfl⟩ ?_
      refine t_done [(.ptr sb0 so1), (.bool false), r3, (.int .i64 v12), (.int .i64 (len8 : Int)), (.bool (decide (v12 < (len8 : Int)))), r3, (.ptr b25 o26), (.bool (((len28 : Int)) == 0)), (.agg [(.int .i64 e31), (.int .i64 e32), (.int .i64 e33), (.int .i64 e34), e35]), (.bool live17), d18, d19, d20, d21] H37 (by kernel_rfl) ?_
      refine then_norm ?_
      refine w_seq ?_
      refine w_run [0, 0, 0, 1, 1, 1, 0, 1, 1, 1, 0, 1, 0, 0, 0, 0, 0, 0, 0] ?_
      refine t_ptr false sb0 so1 H37 (by kernel_rfl) ?_
      refine t_op false (.fieldAddr 4 (.loc 0)) [.ptr sb0 so1] H37 (.ptr sb0 (so1 + 4)) H37 (by kernel_rfl) rfl ?_
      obtain ⟨e39, hl, h⟩ := h
      refine t_load false none sb0 (so1 + 4) (.int .i64 e39) H37 (by kernel_rfl) hl ?_
      refine t_ptr false b25 o26 H37 (by kernel_rfl) ?_
      refine t_op false (.fieldAddr 1 (.loc 0)) [.ptr b25 o26] H37 (.ptr b25 (o26 + 1)) H37 (by kernel_rfl) rfl ?_
      obtain ⟨e40, hl, h⟩ := h
      refine t_load false none b25 (o26 + 1) (.int .i64 e40) H37 (by kernel_rfl) hl ?_
      refine t_call true ndeadline_system_try [(.ptr sb0 so1), (.agg [(.int .i64 e31), (.int .i64 e32), (.int .i64 e33), (.int .i64 e34), e35]), (.int .i64 (IntKind.wrap .i64 (e39 - e40)))] H37 (by kernel_rfl) h ?_
      clear h
      rintro _ H44 ⟨r41, r42, r43, rfl, h⟩
      refine t_done [(.ptr sb0 so1), (.bool false), r3, (.int .i64 v12), (.int .i64 (len8 : Int)), (.bool (decide (v12 < (len8 : Int)))), r3, (.ptr b25 o26), (.bool (((len28 : Int)) == 0)), (.agg [(.int .i64 e31), (.int .i64 e32), (.int .i64 e33), (.int .i64 e34), e35]), (.bool live17), (.bool r43), d19, (.int .i64 r41), (.int .i64 r42)] H44 (by kernel_rfl) ?_
      refine then_norm ?_
      refine w_seq ?_
      refine w_run [0, 0, 0, 0, 0, 0, 0, 0, 0, 0, 0, 0, 0, 0, 0, 0, 0, 0, 0, 0] ?_
      refine t_done [(.ptr sb0 so1), (.bool false), r3, (.int .i64 v12), (.int .i64 (len8 : Int)), (.bool (decide (v12 < (len8 : Int)))), r3, (.ptr b25 o26), (.bool (((len28 : Int)) == 0)), (.agg [(.int .i64 e31), (.int .i64 e32), (.int .i64 e33), (.int .i64 e34), e35]), (.bool (((live17 || r43) || ((e31) == 4)) || (((e31) == 3) && (decide (e34 ≥ 0))))), (.bool r43), d19, (.int .i64 r41), (.int .i64 r42)] H44 (by kernel_rfl) ?_
      refine then_norm ?_
      refine w_seq ?_
      refine w_run [0] ?_
      refine t_done [(.ptr sb0 so1), (.bool false), r3, (.int .i64 v12), (.int .i64 (len8 : Int)), (.bool (decide (v12 < (len8 : Int)))), r3, (.ptr b25 o26), (.bool (((len28 : Int)) == 0)), (.agg [(.int .i64 e31), (.int .i64 e32), (.int .i64 e33), (.int .i64 e34), e35]), (.bool (((live17 || r43) || ((e31) == 4)) || (((e31) == 3) && (decide (e34 ≥ 0))))), (.bool r43), (.bool r43), (.int .i64 r41), (.int .i64 r42)] H44 (by kernel_rfl) ?_
      refine then_norm ?_
      refine w_cond (t := r43) rfl (fun hc => ?_) (fun hc => ?_)
      · replace h := h.1 (is_raw.t hc)
        refine w_seq ?_
        refine w_run [0, 0, 1, 1, 1, 0, 1, 1, 1, 0, 1, 1, 1, 0, 0, 1, 1, 1, 1, 1, 1] ?_
        refine t_ptr false sb0 so1 H44 (by kernel_rfl) ?_
        refine t_op false (.fieldAddr 3 (.loc 0)) [.ptr sb0 so1] H44 (.ptr sb0 (so1 + 3)) H44 (by kernel_rfl) rfl ?_
        obtain ⟨e46, hl, h⟩ := h
        refine t_load false none sb0 (so1 + 3) e46 H44 (by kernel_rfl) hl ?_
        refine t_ptr false sb0 so1 H44 (by kernel_rfl) ?_
        refine t_op false (.fieldAddr 4 (.loc 0)) [.ptr sb0 so1] H44 (.ptr sb0 (so1 + 4)) H44 (by kernel_rfl) rfl ?_
        obtain ⟨e47, hl, h⟩ := h
        refine t_load false none sb0 (so1 + 4) (.int .i64 e47) H44 (by kernel_rfl) hl ?_
        refine t_ptr false b25 o26 H44 (by kernel_rfl) ?_
        refine t_op false (.fieldAddr 0 (.loc 0)) [.ptr b25 o26] H44 (.ptr b25 o26) H44 (by kernel_rfl) rfl ?_
        obtain ⟨e48, hl, h⟩ := h
        refine t_load false none b25 o26 (.int .i64 e48) H44 (by kernel_rfl) hl ?_
        refine t_build false [(.int .i64 0), (.int .i64 0), (.int .i64 0), (.int .i64 0)] [(0, 1, .loc 0), (1, 1, .loc 1), (2, 1, .loc 2), (3, 1, .loc 3)] [(.int .i64 e47), (.int .i64 e48), (.int .i64 r41), (.int .i64 r42)] [(.int .i64 e47), (.int .i64 e48), (.int .i64 r41), (.int .i64 r42)] H44 (by kernel_rfl) (fill_c (vs := [(.int .i64 e47)]) (size := 1) rfl (by kernel_rfl) (by kernel_rfl) (fill_c (vs := [(.int .i64 e48)]) (size := 1) rfl (by kernel_rfl) (by kernel_rfl) (fill_c (vs := [(.int .i64 r41)]) (size := 1) rfl (by kernel_rfl) (by kernel_rfl) (fill_c (vs := [(.int .i64 r42)]) (size := 1) rfl (by kernel_rfl) (by kernel_rfl) (by kernel_rfl))))) ?_
        obtain ⟨b49, H50, hb⟩ : ∃ b H', NewB H44 4 [(.int .i64 e47), (.int .i64 e48), (.int .i64 r41), (.int .i64 r42)] b H' := ⟨_, _, rfl, rfl⟩
        replace h := h b49 H50 hb
        refine t_bs false 4 [(.int .i64 0), (.int .i64 0), (.int .i64 0), (.int .i64 0)] [(0, 4, .loc 0)] 1 [(.agg [(.int .i64 e47), (.int .i64 e48), (.int .i64 r41), (.int .i64 r42)])] [(.int .i64 e47), (.int .i64 e48), (.int .i64 r41), (.int .i64 r42)] b49 H50 H44 (by kernel_rfl) (fill_c (vs := [(.int .i64 e47), (.int .i64 e48), (.int .i64 r41), (.int .i64 r42)]) (size := 4) rfl (by kernel_rfl) (by kernel_rfl) (by kernel_rfl)) hb ?_
        obtain ⟨a51, H52, ha, h⟩ := h
        refine t_app true 4 32 e46 (.slice b49 0 1 (some 1)) a51 H52 H50 (by kernel_rfl) ha ?_
        refine t_ptr true sb0 so1 H52 (by kernel_rfl) ?_
        refine t_op true (.fieldAddr 3 (.loc 0)) [.ptr sb0 so1] H52 (.ptr sb0 (so1 + 3)) H52 (by kernel_rfl) rfl ?_
        obtain ⟨H53, hp, h⟩ := h
        refine t_store true 1 sb0 (so1 + 3) a51 H53 H52 (by kernel_rfl) hp ?_
        refine t_done [(.ptr sb0 so1), (.bool false), r3, (.int .i64 v12), (.int .i64 (len8 : Int)), (.bool (decide (v12 < (len8 : Int)))), r3, (.ptr b25 o26), (.bool (((len28 : Int)) == 0)), (.agg [(.int .i64 e31), (.int .i64 e32), (.int .i64 e33), (.int .i64 e34), e35]), (.bool (((live17 || r43) || ((e31) == 4)) || (((e31) == 3) && (decide (e34 ≥ 0))))), (.bool r43), (.bool r43), (.int .i64 r41), (.int .i64 r42)] H53 (by kernel_rfl) ?_
        refine then_norm ?_
        refine w_run [0, 0, 0, 1, 1, 1, 1, 0, 1, 1, 1, 0, 1, 1, 1, 1, 1, 1] ?_
        refine t_ptr false b25 o26 H53 (by kernel_rfl) ?_
        refine t_op false (.fieldAddr 2 (.loc 0)) [.ptr b25 o26] H53 (.ptr b25 (o26 + 2)) H53 (by kernel_rfl) rfl ?_
        obtain ⟨e54, hl, h⟩ := h
        refine t_load false none b25 (o26 + 2) e54 H53 (by kernel_rfl) hl ?_
        obtain ⟨s55, hs, h⟩ := h
        refine t_slcL false 5 e54 (.int .i64 1) s55 H53 (by kernel_rfl) hs ?_
        refine t_ptr false sb0 so1 H53 (by kernel_rfl) ?_
        refine t_op false (.fieldAddr 4 (.loc 0)) [.ptr sb0 so1] H53 (.ptr sb0 (so1 + 4)) H53 (by kernel_rfl) rfl ?_
        obtain ⟨e56, hl, h⟩ := h
        refine t_load false none sb0 (so1 + 4) (.int .i64 e56) H53 (by kernel_rfl) hl ?_
        refine t_ptr true b25 o26 H53 (by kernel_rfl) ?_
        refine t_op true (.fieldAddr 2 (.loc 0)) [.ptr b25 o26] H53 (.ptr b25 (o26 + 2)) H53 (by kernel_rfl) rfl ?_
        obtain ⟨H57, hp, h⟩ := h
        refine t_store true 1 b25 (o26 + 2) s55 H57 H53 (by kernel_rfl) hp ?_
        refine t_ptr true b25 o26 H57 (by kernel_rfl) ?_
        refine t_op true (.fieldAddr 1 (.loc 0)) [.ptr b25 o26] H57 (.ptr b25 (o26 + 1)) H57 (by kernel_rfl) rfl ?_
        obtain ⟨H58, hp, h⟩ := h
        refine t_store true 1 b25 (o26 + 1) (.int .i64 (IntKind.wrap .i64 (e56 + 1))) H58 H57 (by kernel_rfl) hp ?_
        refine t_done [(.ptr sb0 so1), (.bool false), r3, (.int .i64 v12), (.int .i64 (len8 : Int)), (.bool (decide (v12 < (len8 : Int)))), r3, (.ptr b25 o26), (.bool (((len28 : Int)) == 0)), (.agg [(.int .i64 e31), (.int .i64 e32), (.int .i64 e33), (.int .i64 e34), e35]), (.bool (((live17 || r43) || ((e31) == 4)) || (((e31) == 3) && (decide (e34 ≥ 0))))), (.bool r43), (.bool r43), (.int .i64 r41), (.int .i64 r42)] H58 (by kernel_rfl) ?_
        refine block_norm ?_
        refine then_norm ?_
        refine w_run [0, 0] ?_
        refine t_done [(.ptr sb0 so1), (.bool false), r3, (.int .i64 (IntKind.wrap .i64 (v12 + 1))), (.int .i64 (len8 : Int)), (.bool (decide (v12 < (len8 : Int)))), r3, (.ptr b25 o26), (.bool (((len28 : Int)) == 0)), (.agg [(.int .i64 e31), (.int .i64 e32), (.int .i64 e33), (.int .i64 e34), e35]), (.bool (((live17 || r43) || ((e31) == 4)) || (((e31) == 3) && (decide (e34 ≥ 0))))), (.bool r43), (.bool r43), (.int .i64 r41), (.int .i64 r42)] H58 (by kernel_rfl) ?_
        obtain ⟨m', hm, h⟩ := h
        refine loop_norm ⟨m', hm, _, _, _, _, _, _, _, _, _, _, rfl, h⟩
      · replace h := h.2 (is_raw.f hc)
        refine w_skip ?_
        refine block_norm ?_
        refine then_norm ?_
        refine w_run [0, 0] ?_
        refine t_done [(.ptr sb0 so1), (.bool false), r3, (.int .i64 (IntKind.wrap .i64 (v12 + 1))), (.int .i64 (len8 : Int)), (.bool (decide (v12 < (len8 : Int)))), r3, (.ptr b25 o26), (.bool (((len28 : Int)) == 0)), (.agg [(.int .i64 e31), (.int .i64 e32), (.int .i64 e33), (.int .i64 e34), e35]), (.bool (((live17 || r43) || ((e31) == 4)) || (((e31) == 3) && (decide (e34 ≥ 0))))), (.bool r43), (.bool r43), (.int .i64 r41), (.int .i64 r42)] H44 (by kernel_rfl) ?_
        obtain ⟨m', hm, h⟩ := h
        refine loop_norm ⟨m', hm, _, _, _, _, _, _, _, _, _, _, rfl, h⟩
  · replace h := h.2 (is_dec.f hc)
    refine w_exit ?_
    refine then_exit ?_
    refine loop_exit ?_
    refine block_exit ?_
    refine then_norm ?_
    refine w_seq ?_
    refine w_run [0, 1, 1, 1, 0, 1, 1, 1] ?_
    refine t_ptr true sb0 so1 H22 (by kernel_rfl) ?_
    refine t_op true (.fieldAddr 4 (.loc 0)) [.ptr sb0 so1] H22 (.ptr sb0 (so1 + 4)) H22 (by kernel_rfl) rfl ?_
    obtain ⟨e61, hl, h⟩ := h
    refine t_load true none sb0 (so1 + 4) (.int .i64 e61) H22 (by kernel_rfl) hl ?_
    refine t_ptr true sb0 so1 H22 (by kernel_rfl) ?_
    refine t_op true (.fieldAddr 4 (.loc 0)) [.ptr sb0 so1] H22 (.ptr sb0 (so1 + 4)) H22 (by kernel_rfl) rfl ?_
    obtain ⟨H62, hp, h⟩ := h
    refine t_store true 1 sb0 (so1 + 4) (.int .i64 (IntKind.wrap .i64 (e61 + 1))) H62 H22 (by kernel_rfl) hp ?_
    refine t_done [(.ptr sb0 so1), (.bool false), r3, (.int .i64 v12), (.int .i64 (len8 : Int)), (.bool (decide (v12 < (len8 : Int)))), r3, d14, d15, d16, (.bool live17), d18, d19, d20, d21] H62 (by kernel_rfl) ?_
    refine then_norm ?_
    refine w_seq ?_
    refine w_run [0, 0] ?_
    refine t_done [(.ptr sb0 so1), (.bool live17), r3, (.int .i64 v12), (.int .i64 (len8 : Int)), (.bool (decide (v12 < (len8 : Int)))), r3, d14, d15, d16, (.bool live17), d18, d19, d20, d21] H62 (by kernel_rfl) ?_
    refine then_norm ?_
    refine w_ret ?_
    exact body_ret (vs := [(.bool live17)]) _ (by kernel_rfl) rfl h

def rf_slices_Clone__deadline_process_deadline_process : RFunc := ⟨0, 0, [], .fail, some (.clone 1 8)⟩

def rf_slices_SortStableFunc__deadline_process_deadline_process (nslices_stableCmpFunc_deadline_process : Nat) : RFunc := ⟨2, 2, [],
 (.ops [⟨.move (.var 0), none, none, true⟩, ⟨.move (.var 0), none, none, true⟩, ⟨.len (.loc 1), none, none, true⟩, ⟨.move (.var 1), none, none, true⟩, ⟨.callS nslices_stableCmpFunc_deadline_process [(.loc 0), (.loc 2), (.loc 3)], none, none, true⟩]), none⟩
theorem v_slices_SortStableFunc__deadline_process_deadline_process {F : Nat → Option RFunc} {me nslices_stableCmpFunc_deadline_process : Nat} (hF : F me = some (rf_slices_SortStableFunc__deadline_process_deadline_process nslices_stableCmpFunc_deadline_process)) {fl : Nat} {H : Heap} {Q : AV → Heap → Prop} (x0 : AV) (cmpg1 : Nat) (cmpc2 : List AV)
  (h : ∃ len3 : Nat, lenA x0 = some len3 ∧ Ret F fl nslices_stableCmpFunc_deadline_process [x0, (.int .i64 (len3 : Int)), (.func cmpg1 cmpc2)] H (fun v5 H4 => v5 = .undef ∧ Q .undef H4)) : Ret F fl me [x0, (.func cmpg1 cmpc2)] H Q := by
  refine ret_intro hF rfl ?_
  refine w_run [0, 0, 1, 0, 1] ?_
  obtain ⟨len3, hl, h⟩ := h
  refine t_len true x0 len3 H (by kernel_rfl) hl ?_
  refine t_call true nslices_stableCmpFunc_deadline_process [x0, (.int .i64 (len3 : Int)), (.func cmpg1 cmpc2)] H (by kernel_rfl) h ?_
  clear h
  rintro _ H4 ⟨rfl, h⟩
  refine t_done [x0, (.func cmpg1 cmpc2)] H4 (by kernel_rfl) ?_
  exact body_norm (vs := []) _ (by kernel_rfl) rfl h

def rf_deadline_system_stepx1 (ncmp_Compare_int : Nat) : RFunc := ⟨2, 3, [.var 2],
 ((.seq (.ops [⟨.move (.k (.int .i64 0)), none, (some 2), true⟩])
 ((.seq (.ops [⟨.move (.var 0), none, none, false⟩, ⟨.nilCheck (.loc 0), none, none, false⟩, ⟨.fieldAddr 1 (.loc 1), none, none, false⟩, ⟨.load none (.loc 2), none, none, false⟩, ⟨.move (.var 1), none, none, false⟩, ⟨.nilCheck (.loc 4), none, none, false⟩, ⟨.fieldAddr 1 (.loc 5), none, none, false⟩, ⟨.load none (.loc 6), none, none, false⟩, ⟨.callS ncmp_Compare_int [(.loc 3), (.loc 7)], none, none, true⟩, ⟨.move (.loc 8), none, (some 2), true⟩])
 (.ret))))), none⟩
theorem v_deadline_system_stepx1 {F : Nat → Option RFunc} {me ncmp_Compare_int : Nat} (hF : F me = some (rf_deadline_system_stepx1 ncmp_Compare_int)) {fl : Nat} {H : Heap} {Q : AV → Heap → Prop} (ab0 : Nat) (ao1 : Nat) (bb2 : Nat) (bo3 : Nat)
  (h : ∃ (e4 : Int), rload H none ab0 (ao1 + 1) = some (.int .i64 e4) ∧ ∃ (e5 : Int), rload H none bb2 (bo3 + 1) = some (.int .i64 e5) ∧ Ret F fl ncmp_Compare_int [(.int .i64 e4), (.int .i64 e5)] H (fun v8 H7 => ∃ (r6 : Int), v8 = (.int .i64 r6) ∧ Q (.int .i64 r6) H7)) : Ret F fl me [(.ptr ab0 ao1), (.ptr bb2 bo3)] H Q := by
  refine ret_intro hF rfl ?_
  refine w_seq ?_
  refine w_run [0] ?_
  refine t_done [(.ptr ab0 ao1), (.ptr bb2 bo3), (.int .i64 0)] H (by kernel_rfl) ?_
  refine then_norm ?_
  refine w_seq ?_
  refine w_run [0, 1, 1, 1, 0, 1, 1, 1, 1, 0] ?_
  refine t_ptr false ab0 ao1 H (by kernel_rfl) ?_
  refine t_op false (.fieldAddr 1 (.loc 0)) [.ptr ab0 ao1] H (.ptr ab0 (ao1 + 1)) H (by kernel_rfl) rfl ?_
  obtain ⟨e4, hl, h⟩ := h
  refine t_load false none ab0 (ao1 + 1) (.int .i64 e4) H (by kernel_rfl) hl ?_
  refine t_ptr false bb2 bo3 H (by kernel_rfl) ?_
  refine t_op false (.fieldAddr 1 (.loc 0)) [.ptr bb2 bo3] H (.ptr bb2 (bo3 + 1)) H (by kernel_rfl) rfl ?_
  obtain ⟨e5, hl, h⟩ := h
  refine t_load false none bb2 (bo3 + 1) (.int .i64 e5) H (by kernel_rfl) hl ?_
  refine t_call true ncmp_Compare_int [(.int .i64 e4), (.int .i64 e5)] H (by kernel_rfl) h ?_
  clear h
  rintro _ H7 ⟨r6, rfl, h⟩
  refine t_done [(.ptr ab0 ao1), (.ptr bb2 bo3), (.int .i64 r6)] H7 (by kernel_rfl) ?_
  refine then_norm ?_
  refine w_ret ?_
  exact body_ret (vs := [(.int .i64 r6)]) _ (by kernel_rfl) rfl h

def rf_cmp_Compare_int (ncmp_isNaN_int : Nat) : RFunc := ⟨2, 10, [.var 2],
 ((.seq (.ops [⟨.move (.k (.int .i64 0)), none, (some 2), true⟩])
 ((.seq (.ops [⟨.move (.var 0), none, none, true⟩, ⟨.callS ncmp_isNaN_int [(.loc 0)], none, none, true⟩, ⟨.move (.loc 1), none, (some 3), true⟩])
 ((.seq (.ops [⟨.move (.var 1), none, none, true⟩, ⟨.callS ncmp_isNaN_int [(.loc 0)], none, none, true⟩, ⟨.move (.loc 1), none, (some 5), true⟩])
 ((.seq ((.seq (.ops [⟨.move (.var 3), none, (some 4), true⟩])
 (.cond (.var 4) ((.seq ((.seq (.ops [⟨.move (.var 5), none, (some 6), true⟩])
 (.cond (.var 6) ((.seq (.ops [⟨.move (.k (.int .i64 0)), none, (some 2), true⟩])
 (.ret))) (.skip))))
 ((.seq (.ops [⟨.move (.k (.int .i64 (-1))), none, (some 2), true⟩])
 (.ret))))) (.skip))))
 ((.seq ((.seq (.ops [⟨.move (.var 5), none, (some 7), true⟩])
 (.cond (.var 7) ((.seq (.ops [⟨.move (.k (.int .i64 1)), none, (some 2), true⟩])
 (.ret))) (.skip))))
 ((.seq ((.seq (.ops [⟨.move (.var 0), none, none, true⟩, ⟨.move (.var 1), none, none, true⟩, ⟨.bin .lss .no (.loc 0) (.loc 1), none, (some 8), true⟩])
 (.cond (.var 8) ((.seq (.ops [⟨.move (.k (.int .i64 (-1))), none, (some 2), true⟩])
 (.ret))) (.skip))))
 ((.seq ((.seq (.ops [⟨.move (.var 0), none, none, true⟩, ⟨.move (.var 1), none, none, true⟩, ⟨.bin .gtr .no (.loc 0) (.loc 1), none, (some 9), true⟩])
 (.cond (.var 9) ((.seq (.ops [⟨.move (.k (.int .i64 1)), none, (some 2), true⟩])
 (.ret))) (.skip))))
 ((.seq (.ops [⟨.move (.k (.int .i64 0)), none, (some 2), true⟩])
 (.ret))))))))))))))))), none⟩
theorem v_cmp_Compare_int {F : Nat → Option RFunc} {me ncmp_isNaN_int : Nat} (hF : F me = some (rf_cmp_Compare_int ncmp_isNaN_int)) {fl : Nat} {H : Heap} {Q : AV → Heap → Prop} (x0 : Int) (y1 : Int)
  (h : Ret F fl ncmp_isNaN_int [(.int .i64 x0)] H (fun v4 H3 => ∃ (r2 : Bool), v4 = (.bool r2) ∧ Ret F fl ncmp_isNaN_int [(.int .i64 y1)] H3 (fun v7 H6 => ∃ (r5 : Bool), v7 = (.bool r5) ∧ ((r2 = true) → ((r5 = true) → Q (.int .i64 0) H6) ∧ (¬(r5 = true) → Q (.int .i64 (-1)) H6)) ∧ (¬(r2 = true) → ((r5 = true) → Q (.int .i64 1) H6) ∧ (¬(r5 = true) → ((x0 < y1) → Q (.int .i64 (-1)) H6) ∧ (¬(x0 < y1) → ((x0 > y1) → Q (.int .i64 1) H6) ∧ (¬(x0 > y1) → Q (.int .i64 0) H6))))))) : Ret F fl me [(.int .i64 x0), (.int .i64 y1)] H Q := by
  refine ret_intro hF rfl ?_
  refine w_seq ?_
  refine w_run [0] ?_
  refine t_done [(.int .i64 x0), (.int .i64 y1), (.int .i64 0), .undef, .undef, .undef, .undef, .undef, .undef, .undef] H (by kernel_rfl) ?_
  refine then_norm ?_
  refine w_seq ?_
  refine w_run [0, 1, 0] ?_
  refine t_call true ncmp_isNaN_int [(.int .i64 x0)] H (by kernel_rfl) h ?_
  clear h
  rintro _ H3 ⟨r2, rfl, h⟩
  refine t_done [(.int .i64 x0), (.int .i64 y1), (.int .i64 0), (.bool r2), .undef, .undef, .undef, .undef, .undef, .undef] H3 (by kernel_rfl) ?_
  refine then_norm ?_
  refine w_seq ?_
  refine w_run [0, 1, 0] ?_
  refine t_call true ncmp_isNaN_int [(.int .i64 y1)] H3 (by kernel_rfl) h ?_
  clear h
  rintro _ H6 ⟨r5, rfl, h⟩
  refine t_done [(.int .i64 x0), (.int .i64 y1), (.int .i64 0), (.bool r2), .undef, (.bool r5), .undef, .undef, .undef, .undef] H6 (by kernel_rfl) ?_
  refine then_norm ?_
  refine w_seq ?_
  refine w_seq ?_
  refine w_run [0] ?_
  refine t_done [(.int .i64 x0), (.int .i64 y1), (.int .i64 0), (.bool r2), (.bool r2), (.bool r5), .undef, .undef, .undef, .undef] H6 (by kernel_rfl) ?_
  refine then_norm ?_
  refine w_cond (t := r2) rfl (fun hc => ?_) (fun hc => ?_)
  · replace h := h.1 (is_raw.t hc)
    refine w_seq ?_
    refine w_seq ?_
    refine w_run [0] ?_
    refine t_done [(.int .i64 x0), (.int .i64 y1), (.int .i64 0), (.bool r2), (.bool r2), (.bool r5), (.bool r5), .undef, .undef, .undef] H6 (by kernel_rfl) ?_
    refine then_norm ?_
    refine w_cond (t := r5) rfl (fun hc => ?_) (fun hc => ?_)
    · replace h := h.1 (is_raw.t hc)
      refine w_seq ?_
      refine w_run [0] ?_
      refine t_done [(.int .i64 x0), (.int .i64 y1), (.int .i64 0), (.bool r2), (.bool r2), (.bool r5), (.bool r5), .undef, .undef, .undef] H6 (by kernel_rfl) ?_
      refine then_norm ?_
      refine w_ret ?_
      refine then_ret ?_
      refine then_ret ?_
      exact body_ret (vs := [(.int .i64 0)]) _ (by kernel_rfl) rfl h
    · replace h := h.2 (is_raw.f hc)
      refine w_skip ?_
      refine then_norm ?_
      refine w_seq ?_
      refine w_run [0] ?_
      refine t_done [(.int .i64 x0), (.int .i64 y1), (.int .i64 (-1)), (.bool r2), (.bool r2), (.bool r5), (.bool r5), .undef, .undef, .undef] H6 (by kernel_rfl) ?_
      refine then_norm ?_
      refine w_ret ?_
      refine then_ret ?_
      exact body_ret (vs := [(.int .i64 (-1))]) _ (by kernel_rfl) rfl h
  · replace h := h.2 (is_raw.f hc)
    refine w_skip ?_
    refine then_norm ?_
    refine w_seq ?_
    refine w_seq ?_
    refine w_run [0] ?_
    refine t_done [(.int .i64 x0), (.int .i64 y1), (.int .i64 0), (.bool r2), (.bool r2), (.bool r5), .undef, (.bool r5), .undef, .undef] H6 (by kernel_rfl) ?_
    refine then_norm ?_
    refine w_cond (t := r5) rfl (fun hc => ?_) (fun hc => ?_)
    · replace h := h.1 (is_raw.t hc)
      refine w_seq ?_
      refine w_run [0] ?_
      refine t_done [(.int .i64 x0), (.int .i64 y1), (.int .i64 1), (.bool r2), (.bool r2), (.bool r5), .undef, (.bool r5), .undef, .undef] H6 (by kernel_rfl) ?_
      refine then_norm ?_
      refine w_ret ?_
      refine then_ret ?_
      exact body_ret (vs := [(.int .i64 1)]) _ (by kernel_rfl) rfl h
    · replace h := h.2 (is_raw.f hc)
      refine w_skip ?_
      refine then_norm ?_
      refine w_seq ?_
      refine w_seq ?_
      refine w_run [0, 0, 0] ?_
      refine t_done [(.int .i64 x0), (.int .i64 y1), (.int .i64 0), (.bool r2), (.bool r2), (.bool r5), .undef, (.bool r5), (.bool (decide (x0 < y1))), .undef] H6 (by kernel_rfl) ?_
      refine then_norm ?_
      refine w_cond (t := (decide (x0 < y1))) rfl (fun hc => ?_) (fun hc => ?_)
      · replace h := h.1 (is_dec.t hc)
        refine w_seq ?_
        refine w_run [0] ?_
        refine t_done [(.int .i64 x0), (.int .i64 y1), (.int .i64 (-1)), (.bool r2), (.bool r2), (.bool r5), .undef, (.bool r5), (.bool (decide (x0 < y1))), .undef] H6 (by kernel_rfl) ?_
        refine then_norm ?_
        refine w_ret ?_
        refine then_ret ?_
        exact body_ret (vs := [(.int .i64 (-1))]) _ (by kernel_rfl) rfl h
      · replace h := h.2 (is_dec.f hc)
        refine w_skip ?_
        refine then_norm ?_
        refine w_seq ?_
        refine w_seq ?_
        refine w_run [0, 0, 0] ?_
        refine t_done [(.int .i64 x0), (.int .i64 y1), (.int .i64 0), (.bool r2), (.bool r2), (.bool r5), .undef, (.bool r5), (.bool (decide (x0 < y1))), (.bool (decide (x0 > y1)))] H6 (by kernel_rfl) ?_
        refine then_norm ?_
        refine w_cond (t := (decide (x0 > y1))) rfl (fun hc => ?_) (fun hc => ?_)
        · replace h := h.1 (is_dec.t hc)
          refine w_seq ?_
          refine w_run [0] ?_
          refine t_done [(.int .i64 x0), (.int .i64 y1), (.int .i64 1), (.bool r2), (.bool r2), (.bool r5), .undef, (.bool r5), (.bool (decide (x0 < y1))), (.bool (decide (x0 > y1)))] H6 (by kernel_rfl) ?_
          refine then_norm ?_
          refine w_ret ?_
          refine then_ret ?_
          exact body_ret (vs := [(.int .i64 1)]) _ (by kernel_rfl) rfl h
        · replace h := h.2 (is_dec.f hc)
          refine w_skip ?_
          refine then_norm ?_
          refine w_seq ?_
          refine w_run [0] ?_
          refine t_done [(.int .i64 x0), (.int .i64 y1), (.int .i64 0), (.bool r2), (.bool r2), (.bool r5), .undef, (.bool r5), (.bool (decide (x0 < y1))), (.bool (decide (x0 > y1)))] H6 (by kernel_rfl) ?_
          refine then_norm ?_
          refine w_ret ?_
          exact body_ret (vs := [(.int .i64 0)]) _ (by kernel_rfl) rfl h

def rf_cmp_isNaN_int : RFunc := ⟨1, 2, [.var 1],
 ((.seq (.ops [⟨.move (.k (.bool false)), none, (some 1), true⟩])
 ((.seq (.ops [⟨.move (.var 0), none, none, true⟩, ⟨.move (.var 0), none, none, true⟩, ⟨.bin .neq .no (.loc 0) (.loc 1), none, none, true⟩, ⟨.move (.loc 2), none, (some 1), true⟩])
 (.ret))))), none⟩
theorem v_cmp_isNaN_int {F : Nat → Option RFunc} {me : Nat} (hF : F me = some (rf_cmp_isNaN_int )) {fl : Nat} {H : Heap} {Q : AV → Heap → Prop} (x0 : Int)
  (h : Q (.bool ((x0) != x0)) H) : Ret F fl me [(.int .i64 x0)] H Q := by
  refine ret_intro hF rfl ?_
  refine w_seq ?_
  refine w_run [0] ?_
  refine t_done [(.int .i64 x0), (.bool false)] H (by kernel_rfl) ?_
  refine then_norm ?_
  refine w_seq ?_
  refine w_run [0, 0, 0, 0] ?_
  refine t_done [(.int .i64 x0), (.bool ((x0) != x0))] H (by kernel_rfl) ?_
  refine then_norm ?_
  refine w_ret ?_
  exact body_ret (vs := [(.bool ((x0) != x0))]) _ (by kernel_rfl) rfl h

def rf_slices_stableCmpFunc_deadline_process (nslices_insertionSortCmpFunc_deadline_process nslices_symMergeCmpFunc_deadline_process : Nat) : RFunc := ⟨3, 11, [],
 ((.seq (.ops [⟨.move (.k (.int .i64 20)), none, (some 3), true⟩])
 ((.seq (.ops [⟨.move (.var 3), none, none, true⟩, ⟨.move (.k (.int .i64 0)), none, (some 6), true⟩, ⟨.move (.loc 0), none, (some 4), true⟩])
 ((.seq (.block 0 (.loop ((.seq ((.seq (.ops [⟨.move (.var 4), none, none, true⟩, ⟨.move (.var 1), none, none, true⟩, ⟨.bin .leq .no (.loc 0) (.loc 1), none, (some 5), true⟩])
 (.cond (.var 5) (.skip) (.exit 0))))
 (.block 1 ((.seq (.ops [⟨.move (.var 0), none, none, true⟩, ⟨.move (.var 6), none, none, true⟩, ⟨.move (.var 4), none, none, true⟩, ⟨.move (.var 2), none, none, true⟩, ⟨.callS nslices_insertionSortCmpFunc_deadline_process [(.loc 0), (.loc 1), (.loc 2), (.loc 3)], none, none, true⟩])
 ((.seq (.ops [⟨.move (.var 4), none, none, true⟩, ⟨.move (.loc 0), none, (some 6), true⟩])
 (.ops [⟨.move (.var 4), none, none, true⟩, ⟨.move (.var 3), none, none, true⟩, ⟨.bin .add .no (.loc 0) (.loc 1), none, none, true⟩, ⟨.move (.loc 2), none, (some 4), true⟩]))))))))))
 ((.seq (.ops [⟨.move (.var 0), none, none, true⟩, ⟨.move (.var 6), none, none, true⟩, ⟨.move (.var 1), none, none, true⟩, ⟨.move (.var 2), none, none, true⟩, ⟨.callS nslices_insertionSortCmpFunc_deadline_process [(.loc 0), (.loc 1), (.loc 2), (.loc 3)], none, none, true⟩])
 (.block 2 (.loop ((.seq ((.seq (.ops [⟨.move (.var 3), none, none, true⟩, ⟨.move (.var 1), none, none, true⟩, ⟨.bin .lss .no (.loc 0) (.loc 1), none, (some 7), true⟩])
 (.cond (.var 7) (.skip) (.exit 2))))
 (.block 3 ((.seq (.ops [⟨.move (.var 3), none, none, true⟩, ⟨.bin .mul .no (.k (.int .i64 2)) (.loc 0), none, none, true⟩, ⟨.move (.k (.int .i64 0)), none, (some 6), true⟩, ⟨.move (.loc 1), none, (some 4), true⟩])
 ((.seq (.block 4 (.loop ((.seq ((.seq (.ops [⟨.move (.var 4), none, none, true⟩, ⟨.move (.var 1), none, none, true⟩, ⟨.bin .leq .no (.loc 0) (.loc 1), none, (some 8), true⟩])
 (.cond (.var 8) (.skip) (.exit 4))))
 (.block 5 ((.seq (.ops [⟨.move (.var 0), none, none, true⟩, ⟨.move (.var 6), none, none, true⟩, ⟨.move (.var 6), none, none, true⟩, ⟨.move (.var 3), none, none, true⟩, ⟨.bin .add .no (.loc 2) (.loc 3), none, none, true⟩, ⟨.move (.var 4), none, none, true⟩, ⟨.move (.var 2), none, none, true⟩, ⟨.callS nslices_symMergeCmpFunc_deadline_process [(.loc 0), (.loc 1), (.loc 4), (.loc 5), (.loc 6)], none, none, true⟩])
 ((.seq (.ops [⟨.move (.var 4), none, none, true⟩, ⟨.move (.loc 0), none, (some 6), true⟩])
 (.ops [⟨.move (.var 4), none, none, true⟩, ⟨.move (.var 3), none, none, true⟩, ⟨.bin .mul .no (.k (.int .i64 2)) (.loc 1), none, none, true⟩, ⟨.bin .add .no (.loc 0) (.loc 2), none, none, true⟩, ⟨.move (.loc 3), none, (some 4), true⟩]))))))))))
 ((.seq ((.seq (.ops [⟨.move (.var 6), none, none, true⟩, ⟨.move (.var 3), none, none, true⟩, ⟨.bin .add .no (.loc 0) (.loc 1), none, none, true⟩, ⟨.move (.loc 2), none, (some 9), true⟩])
 ((.seq (.ops [⟨.move (.var 9), none, none, true⟩, ⟨.move (.var 1), none, none, true⟩, ⟨.bin .lss .no (.loc 0) (.loc 1), none, (some 10), true⟩])
 (.cond (.var 10) (.ops [⟨.move (.var 0), none, none, true⟩, ⟨.move (.var 6), none, none, true⟩, ⟨.move (.var 9), none, none, true⟩, ⟨.move (.var 1), none, none, true⟩, ⟨.move (.var 2), none, none, true⟩, ⟨.callS nslices_symMergeCmpFunc_deadline_process [(.loc 0), (.loc 1), (.loc 2), (.loc 3), (.loc 4)], none, none, true⟩]) (.skip))))))
 (.ops [⟨.move (.var 3), none, none, true⟩, ⟨.bin .mul .no (.loc 0) (.k (.int .i64 2)), none, none, true⟩, ⟨.move (.loc 1), none, (some 3), true⟩])))))))))))))))))))), none⟩
theorem v_slices_stableCmpFunc_deadline_process {F : Nat → Option RFunc} {me nslices_insertionSortCmpFunc_deadline_process nslices_symMergeCmpFunc_deadline_process : Nat} (hF : F me = some (rf_slices_stableCmpFunc_deadline_process nslices_insertionSortCmpFunc_deadline_process nslices_symMergeCmpFunc_deadline_process)) {fl : Nat} {H : Heap} {Q : AV → Heap → Prop} (data0 : AV) (n1 : Int) (cmpg2 : Nat) (cmpc3 : List AV)
  (h : ∃ (J4 : Nat → Int → Int → Heap → Prop) (k5 : Nat), J4 k5 20 0 H ∧ (∀ (m6 : Nat) (b7 : Int) (a9 : Int) (H10 : Heap), J4 m6 b7 a9 H10 → ((b7 ≤ n1) → Ret F fl nslices_insertionSortCmpFunc_deadline_process [data0, (.int .i64 a9), (.int .i64 b7), (.func cmpg2 cmpc3)] H10 (fun v12 H11 => v12 = .undef ∧ ∃ m13 : Nat, m13 < m6 ∧ J4 m13 (IntKind.wrap .i64 (b7 + 20)) b7 H11)) ∧ (¬(b7 ≤ n1) → Ret F fl nslices_insertionSortCmpFunc_deadline_process [data0, (.int .i64 a9), (.int .i64 n1), (.func cmpg2 cmpc3)] H10 (fun v15 H14 => v15 = .undef ∧ ∃ (J16 : Nat → Int → Heap → Prop) (k17 : Nat), J16 k17 20 H14 ∧ (∀ (m18 : Nat) (blockSize19 : Int) (H26 : Heap), J16 m18 blockSize19 H26 → ((blockSize19 < n1) → ∃ (J27 : Nat → Int → Int → Heap → Prop) (k28 : Nat), J27 k28 (IntKind.wrap .i64 (2 * blockSize19)) 0 H26 ∧ (∀ (m29 : Nat) (b30 : Int) (a31 : Int) (H33 : Heap), J27 m29 b30 a31 H33 → ((b30 ≤ n1) → Ret F fl nslices_symMergeCmpFunc_deadline_process [data0, (.int .i64 a31), (.int .i64 (IntKind.wrap .i64 (a31 + blockSize19))), (.int .i64 b30), (.func cmpg2 cmpc3)] H33 (fun v35 H34 => v35 = .undef ∧ ∃ m36 : Nat, m36 < m29 ∧ J27 m36 (IntKind.wrap .i64 (b30 + (IntKind.wrap .i64 (2 * blockSize19)))) b30 H34)) ∧ (¬(b30 ≤ n1) → (((IntKind.wrap .i64 (a31 + blockSize19)) < n1) → Ret F fl nslices_symMergeCmpFunc_deadline_process [data0, (.int .i64 a31), (.int .i64 (IntKind.wrap .i64 (a31 + blockSize19))), (.int .i64 n1), (.func cmpg2 cmpc3)] H33 (fun v38 H37 => v38 = .undef ∧ ∃ m39 : Nat, m39 < m18 ∧ J16 m39 (IntKind.wrap .i64 (blockSize19 * 2)) H37)) ∧ (¬((IntKind.wrap .i64 (a31 + blockSize19)) < n1) → ∃ m40 : Nat, m40 < m18 ∧ J16 m40 (IntKind.wrap .i64 (blockSize19 * 2)) H33)))) ∧ (¬(blockSize19 < n1) → Q .undef H26)))))) : Ret F fl me [data0, (.int .i64 n1), (.func cmpg2 cmpc3)] H Q := by
  refine ret_intro hF rfl ?_
  refine w_seq ?_
  refine w_run [0] ?_
  refine t_done [data0, (.int .i64 n1), (.func cmpg2 cmpc3), (.int .i64 20), .undef, .undef, .undef, .undef, .undef, .undef, .undef] H (by kernel_rfl) ?_
  refine then_norm ?_
  refine w_seq ?_
  refine w_run [0, 0, 0] ?_
  refine t_done [data0, (.int .i64 n1), (.func cmpg2 cmpc3), (.int .i64 20), (.int .i64 20), .undef, (.int .i64 0), .undef, .undef, .undef, .undef] H (by kernel_rfl) ?_
  refine then_norm ?_
  refine w_seq ?_
  refine w_block ?_
  obtain ⟨J4, k5, h0, h⟩ := h
  refine w_loop (I := fun mI EI HI => ∃ (b7 : Int) (d8 : AV) (a9 : Int), EI = [data0, (.int .i64 n1), (.func cmpg2 cmpc3), (.int .i64 20), (.int .i64 b7), d8, (.int .i64 a9), .undef, .undef, .undef, .undef] ∧ J4 mI b7 a9 HI) ?_ k5 ⟨_, _, _, rfl, h0⟩
  clear h0
  rintro m6 EI H10 ⟨b7, d8, a9, rfl, hJ⟩
  replace h := h m6 b7 a9 H10 hJ
  clear hJ
  refine w_seq ?_
  refine w_seq ?_
  refine w_run [0, 0, 0] ?_
  refine t_done [data0, (.int .i64 n1), (.func cmpg2 cmpc3), (.int .i64 20), (.int .i64 b7), (.bool (decide (b7 ≤ n1))), (.int .i64 a9), .undef, .undef, .undef, .undef] H10 (by kernel_rfl) ?_
  refine then_norm ?_
  refine w_cond (t := (decide (b7 ≤ n1))) rfl (fun hc => ?_) (fun hc => ?_)
  · replace h := h.1 (is_dec.t hc)
    refine w_skip ?_
    refine then_norm ?_
    refine w_block ?_
    refine w_seq ?_
    refine w_run [0, 0, 0, 0, 1] ?_
    refine t_call true nslices_insertionSortCmpFunc_deadline_process [data0, (.int .i64 a9), (.int .i64 b7), (.func cmpg2 cmpc3)] H10 (by kernel_rfl) h ?_
    clear h
    rintro _ H11 ⟨rfl, h⟩
    refine t_done [data0, (.int .i64 n1), (.func cmpg2 cmpc3), (.int .i64 20), (.int .i64 b7), (.bool (decide (b7 ≤ n1))), (.int .i64 a9), .undef, .undef, .undef, .undef] H11 (by kernel_rfl) ?_
    refine then_norm ?_
    refine w_seq ?_
    refine w_run [0, 0] ?_
    refine t_done [data0, (.int .i64 n1), (.func cmpg2 cmpc3), (.int .i64 20), (.int .i64 b7), (.bool (decide (b7 ≤ n1))), (.int .i64 b7), .undef, .undef, .undef, .undef] H11 (by kernel_rfl) ?_
    refine then_norm ?_
    refine w_run [0, 0, 0, 0] ?_
    refine t_done [data0, (.int .i64 n1), (.func cmpg2 cmpc3), (.int .i64 20), (.int .i64 (IntKind.wrap .i64 (b7 + 20))), (.bool (decide (b7 ≤ n1))), (.int .i64 b7), .undef, .undef, .undef, .undef] H11 (by kernel_rfl) ?_
    refine block_norm ?_
    obtain ⟨m', hm, h⟩ := h
    refine loop_norm ⟨m', hm, _, _, _, rfl, h⟩
  · replace h := h.2 (is_dec.f hc)
    refine w_exit ?_
    refine then_exit ?_
    refine loop_exit ?_
    refine block_exit ?_
    refine then_norm ?_
    refine w_seq ?_
    refine w_run [0, 0, 0, 0, 1] ?_
    refine t_call true nslices_insertionSortCmpFunc_deadline_process [data0, (.int .i64 a9), (.int .i64 n1), (.func cmpg2 cmpc3)] H10 (by kernel_rfl) h ?_
    clear h
    rintro _ H14 ⟨rfl, h⟩
    refine t_done [data0, (.int .i64 n1), (.func cmpg2 cmpc3), (.int .i64 20), (.int .i64 b7), (.bool (decide (b7 ≤ n1))), (.int .i64 a9), .undef, .undef, .undef, .undef] H14 (by kernel_rfl) ?_
    refine then_norm ?_
    refine w_block ?_
    obtain ⟨J16, k17, h0, h⟩ := h
    refine w_loop (I := fun mI EI HI => ∃ (blockSize19 : Int) (d20 : AV) (d21 : AV) (d22 : AV) (d23 : AV) (d24 : AV) (d25 : AV), EI = [data0, (.int .i64 n1), (.func cmpg2 cmpc3), (.int .i64 blockSize19), d20, (.bool (decide (b7 ≤ n1))), d21, d22, d23, d24, d25] ∧ J16 mI blockSize19 HI) ?_ k17 ⟨_, _, _, _, _, _, _, rfl, h0⟩
    clear h0
    rintro m18 EI H26 ⟨blockSize19, d20, d21, d22, d23, d24, d25, rfl, hJ⟩
    replace h := h m18 blockSize19 H26 hJ
    clear hJ
    refine w_seq ?_
    refine w_seq ?_
    refine w_run [0, 0, 0] ?_
    refine t_done [data0, (.int .i64 n1), (.func cmpg2 cmpc3), (.int .i64 blockSize19), d20, (.bool (decide (b7 ≤ n1))), d21, (.bool (decide (blockSize19 < n1))), d23, d24, d25] H26 (by kernel_rfl) ?_
    refine then_norm ?_
    refine w_cond (t := (decide (blockSize19 < n1))) rfl (fun hc => ?_) (fun hc => ?_)
    · replace h := h.1 (is_dec.t hc)
      refine w_skip ?_
      refine then_norm ?_
      refine w_block ?_
      refine w_seq ?_
      refine w_run [0, 0, 0, 0] ?_
      refine t_done [data0, (.int .i64 n1), (.func cmpg2 cmpc3), (.int .i64 blockSize19), (.int .i64 (IntKind.wrap .i64 (2 * blockSize19))), (.bool (decide (b7 ≤ n1))), (.int .i64 0), (.bool (decide (blockSize19 < n1))), d23, d24, d25] H26 (by kernel_rfl) ?_
      refine then_norm ?_
      refine w_seq ?_
      refine w_block ?_
      obtain ⟨J27, k28, h0, h⟩ := h
      refine w_loop (I := fun mI EI HI => ∃ (b30 : Int) (a31 : Int) (d32 : AV), EI = [data0, (.int .i64 n1), (.func cmpg2 cmpc3), (.int .i64 blockSize19), (.int .i64 b30), (.bool (decide (b7 ≤ n1))), (.int .i64 a31), (.bool (decide (blockSize19 < n1))), d32, d24, d25] ∧ J27 mI b30 a31 HI) ?_ k28 ⟨_, _, _, rfl, h0⟩
      clear h0
      rintro m29 EI H33 ⟨b30, a31, d32, rfl, hJ⟩
      replace h := h m29 b30 a31 H33 hJ
      clear hJ
      refine w_seq ?_
      refine w_seq ?_
      refine w_run [0, 0, 0] ?_
      refine t_done [data0, (.int .i64 n1), (.func cmpg2 cmpc3), (.int .i64 blockSize19), (.int .i64 b30), (.bool (decide (b7 ≤ n1))), (.int .i64 a31), (.bool (decide (blockSize19 < n1))), (.bool (decide (b30 ≤ n1))), d24, d25] H33 (by kernel_rfl) ?_
      refine then_norm ?_
      refine w_cond (t := (decide (b30 ≤ n1))) rfl (fun hc => ?_) (fun hc => ?_)
      · replace h := h.1 (is_dec.t hc)
        refine w_skip ?_
        refine then_norm ?_
        refine w_block ?_
        refine w_seq ?_
        refine w_run [0, 0, 0, 0, 0, 0, 0, 1] ?_
        refine t_call true nslices_symMergeCmpFunc_deadline_process [data0, (.int .i64 a31), (.int .i64 (IntKind.wrap .i64 (a31 + blockSize19))), (.int .i64 b30), (.func cmpg2 cmpc3)] H33 (by kernel_rfl) h ?_
        clear h
        rintro _ H34 ⟨rfl, h⟩
        refine t_done [data0, (.int .i64 n1), (.func cmpg2 cmpc3), (.int .i64 blockSize19), (.int .i64 b30), (.bool (decide (b7 ≤ n1))), (.int .i64 a31), (.bool (decide (blockSize19 < n1))), (.bool (decide (b30 ≤ n1))), d24, d25] H34 (by kernel_rfl) ?_
        refine then_norm ?_
        refine w_seq ?_
        refine w_run [0, 0] ?_
        refine t_done [data0, (.int .i64 n1), (.func cmpg2 cmpc3), (.int .i64 blockSize19), (.int .i64 b30), (.bool (decide (b7 ≤ n1))), (.int .i64 b30), (.bool (decide (blockSize19 < n1))), (.bool (decide (b30 ≤ n1))), d24, d25] H34 (by kernel_rfl) ?_
        refine then_norm ?_
        refine w_run [0, 0, 0, 0, 0] ?_
        refine t_done [data0, (.int .i64 n1), (.func cmpg2 cmpc3), (.int .i64 blockSize19), (.int .i64 (IntKind.wrap .i64 (b30 + (IntKind.wrap .i64 (2 * blockSize19))))), (.bool (decide (b7 ≤ n1))), (.int .i64 b30), (.bool (decide (blockSize19 < n1))), (.bool (decide (b30 ≤ n1))), d24, d25] H34 (by kernel_rfl) ?_
        refine block_norm ?_
        obtain ⟨m', hm, h⟩ := h
        refine loop_norm ⟨m', hm, _, _, _, rfl, h⟩
      · replace h := h.2 (is_dec.f hc)
        refine w_exit ?_
        refine then_exit ?_
        refine loop_exit ?_
        refine block_exit ?_
        refine then_norm ?_
        refine w_seq ?_
        refine w_seq ?_
        refine w_run [0, 0, 0, 0] ?_
        refine t_done [data0, (.int .i64 n1), (.func cmpg2 cmpc3), (.int .i64 blockSize19), (.int .i64 b30), (.bool (decide (b7 ≤ n1))), (.int .i64 a31), (.bool (decide (blockSize19 < n1))), (.bool (decide (b30 ≤ n1))), (.int .i64 (IntKind.wrap .i64 (a31 + blockSize19))), d25] H33 (by kernel_rfl) ?_
        refine then_norm ?_
        refine w_seq ?_
        refine w_run [0, 0, 0] ?_
        refine t_done [data0, (.int .i64 n1), (.func cmpg2 cmpc3), (.int .i64 blockSize19), (.int .i64 b30), (.bool (decide (b7 ≤ n1))), (.int .i64 a31), (.bool (decide (blockSize19 < n1))), (.bool (decide (b30 ≤ n1))), (.int .i64 (IntKind.wrap .i64 (a31 + blockSize19))), (.bool (decide ((IntKind.wrap .i64 (a31 + blockSize19)) < n1)))] H33 (by kernel_rfl) ?_
        refine then_norm ?_
        refine w_cond (t := (decide ((IntKind.wrap .i64 (a31 + blockSize19)) < n1))) rfl (fun hc => ?_) (fun hc => ?_)
        · replace h := h.1 (is_dec.t hc)
          refine w_run [0, 0, 0, 0, 0, 1] ?_
          refine t_call true nslices_symMergeCmpFunc_deadline_process [data0, (.int .i64 a31), (.int .i64 (IntKind.wrap .i64 (a31 + blockSize19))), (.int .i64 n1), (.func cmpg2 cmpc3)] H33 (by kernel_rfl) h ?_
          clear h
          rintro _ H37 ⟨rfl, h⟩
          refine t_done [data0, (.int .i64 n1), (.func cmpg2 cmpc3), (.int .i64 blockSize19), (.int .i64 b30), (.bool (decide (b7 ≤ n1))), (.int .i64 a31), (.bool (decide (blockSize19 < n1))), (.bool (decide (b30 ≤ n1))), (.int .i64 (IntKind.wrap .i64 (a31 + blockSize19))), (.bool (decide ((IntKind.wrap .i64 (a31 + blockSize19)) < n1)))] H37 (by kernel_rfl) ?_
          refine then_norm ?_
          refine w_run [0, 0, 0] ?_
          refine t_done [data0, (.int .i64 n1), (.func cmpg2 cmpc3), (.int .i64 (IntKind.wrap .i64 (blockSize19 * 2))), (.int .i64 b30), (.bool (decide (b7 ≤ n1))), (.int .i64 a31), (.bool (decide (blockSize19 < n1))), (.bool (decide (b30 ≤ n1))), (.int .i64 (IntKind.wrap .i64 (a31 + blockSize19))), (.bool (decide ((IntKind.wrap .i64 (a31 + blockSize19)) < n1)))] H37 (by kernel_rfl) ?_
          refine block_norm ?_
          obtain ⟨m', hm, h⟩ := h
          refine loop_norm ⟨m', hm, _, _, _, _, _, _, _, rfl, h⟩
        · replace h := h.2 (is_dec.f hc)
          refine w_skip ?_
          refine then_norm ?_
          refine w_run [0, 0, 0] ?_
          refine t_done [data0, (.int .i64 n1), (.func cmpg2 cmpc3), (.int .i64 (IntKind.wrap .i64 (blockSize19 * 2))), (.int .i64 b30), (.bool (decide (b7 ≤ n1))), (.int .i64 a31), (.bool (decide (blockSize19 < n1))), (.bool (decide (b30 ≤ n1))), (.int .i64 (IntKind.wrap .i64 (a31 + blockSize19))), (.bool (decide ((IntKind.wrap .i64 (a31 + blockSize19)) < n1)))] H33 (by kernel_rfl) ?_
          refine block_norm ?_
          obtain ⟨m', hm, h⟩ := h
          refine loop_norm ⟨m', hm, _, _, _, _, _, _, _, rfl, h⟩
    · replace h := h.2 (is_dec.f hc)
      refine w_exit ?_
      refine then_exit ?_
      refine loop_exit ?_
      refine block_exit ?_
      exact body_norm (vs := []) _ (by kernel_rfl) rfl h

def rf_slices_insertionSortCmpFunc_deadline_process : RFunc := ⟨4, 8, [],
 ((.seq (.ops [⟨.move (.var 1), none, none, true⟩, ⟨.bin .add .no (.loc 0) (.k (.int .i64 1)), none, none, true⟩, ⟨.move (.loc 1), none, (some 4), true⟩])
 (.block 0 (.loop ((.seq ((.seq (.ops [⟨.move (.var 4), none, none, true⟩, ⟨.move (.var 2), none, none, true⟩, ⟨.bin .lss .no (.loc 0) (.loc 1), none, (some 5), true⟩])
 (.cond (.var 5) (.skip) (.exit 0))))
 ((.seq (.block 1 ((.seq (.ops [⟨.move (.var 4), none, none, true⟩, ⟨.move (.loc 0), none, (some 6), true⟩])
 (.block 2 (.loop ((.seq ((.seq (.ops [⟨.move (.var 6), none, none, true⟩, ⟨.move (.var 1), none, none, true⟩, ⟨.bin .gtr .no (.loc 0) (.loc 1), none, none, true⟩, ⟨.move (.loc 2), none, none, true⟩, ⟨.move (.var 3), none, none, false⟩, ⟨.move (.var 0), none, none, false⟩, ⟨.move (.var 6), none, none, false⟩, ⟨.indexAddr 1 (.loc 5) (.loc 6), (some (3, true)), none, false⟩, ⟨.load none (.loc 7), (some (3, true)), none, false⟩, ⟨.move (.var 0), none, none, false⟩, ⟨.move (.var 6), none, none, false⟩, ⟨.bin .sub .no (.loc 10) (.k (.int .i64 1)), none, none, false⟩, ⟨.indexAddr 1 (.loc 9) (.loc 11), (some (3, true)), none, false⟩, ⟨.load none (.loc 12), (some (3, true)), none, false⟩, ⟨.call (.loc 4) [(.loc 8), (.loc 13)], (some (3, true)), none, true⟩, ⟨.bin .lss .no (.loc 14) (.k (.int .i64 0)), (some (3, true)), none, true⟩, ⟨.pick (.loc 3) (.loc 15) (.k (.bool false)), none, (some 7), true⟩])
 (.cond (.var 7) (.skip) (.exit 2))))
 ((.seq (.block 3 (.ops [⟨.move (.var 0), none, none, false⟩, ⟨.move (.var 6), none, none, false⟩, ⟨.move (.var 0), none, none, false⟩, ⟨.move (.var 6), none, none, false⟩, ⟨.bin .sub .no (.loc 3) (.k (.int .i64 1)), none, none, false⟩, ⟨.move (.var 0), none, none, false⟩, ⟨.move (.var 6), none, none, false⟩, ⟨.bin .sub .no (.loc 6) (.k (.int .i64 1)), none, none, false⟩, ⟨.indexAddr 1 (.loc 5) (.loc 7), none, none, false⟩, ⟨.load none (.loc 8), none, none, false⟩, ⟨.move (.var 0), none, none, false⟩, ⟨.move (.var 6), none, none, false⟩, ⟨.indexAddr 1 (.loc 10) (.loc 11), none, none, false⟩, ⟨.load none (.loc 12), none, none, false⟩, ⟨.indexAddr 1 (.loc 0) (.loc 1), none, none, true⟩, ⟨.store 1 (.loc 14) (.loc 9) [], none, none, true⟩, ⟨.indexAddr 1 (.loc 2) (.loc 4), none, none, true⟩, ⟨.store 1 (.loc 16) (.loc 13) [], none, none, true⟩]))
 (.ops [⟨.move (.var 6), none, none, true⟩, ⟨.bin .sub .no (.loc 0) (.k (.int .i64 1)), none, none, true⟩, ⟨.move (.loc 1), none, (some 6), true⟩]))))))))))
 (.ops [⟨.move (.var 4), none, none, true⟩, ⟨.bin .add .no (.loc 0) (.k (.int .i64 1)), none, none, true⟩, ⟨.move (.loc 1), none, (some 4), true⟩]))))))))), none⟩
theorem v_slices_insertionSortCmpFunc_deadline_process {F : Nat → Option RFunc} {me : Nat} (hF : F me = some (rf_slices_insertionSortCmpFunc_deadline_process )) {fl : Nat} {H : Heap} {Q : AV → Heap → Prop} (data0 : AV) (a1 : Int) (b2 : Int) (cmpg3 : Nat) (cmpc4 : List AV)
  (h : ∃ (J5 : Nat → Int → Heap → Prop) (k6 : Nat), J5 k6 (IntKind.wrap .i64 (a1 + 1)) H ∧ (∀ (m7 : Nat) (i8 : Int) (H12 : Heap), J5 m7 i8 H12 → ((i8 < b2) → ∃ (J13 : Nat → Int → Heap → Prop) (k14 : Nat), J13 k14 i8 H12 ∧ (∀ (m15 : Nat) (j16 : Int) (H18 : Heap), J13 m15 j16 H18 → ((j16 > a1) → ∃ (e19 : AV), getA H18 1 none data0 j16 0 = some e19 ∧ ∃ (e21 : AV), getA H18 1 none data0 (IntKind.wrap .i64 (j16 - 1)) 0 = some e21 ∧ Ret F fl cmpg3 (([e19, e21] : List AV) ++ cmpc4) H18 (fun v25 H24 => ∃ (r23 : Int), v25 = (.int .i64 r23) ∧ ((r23 < 0) → ∃ (e26 : AV), getA H24 1 none data0 (IntKind.wrap .i64 (j16 - 1)) 0 = some e26 ∧ ∃ (e28 : AV), getA H24 1 none data0 j16 0 = some e28 ∧ ∃ b30 o31 : Nat, ptrA 1 data0 j16 = some (b30, o31) ∧ ∃ H32 : Heap, putA fl H24 b30 o31 1 e26 = some H32 ∧ ∃ b33 o34 : Nat, ptrA 1 data0 (IntKind.wrap .i64 (j16 - 1)) = some (b33, o34) ∧ ∃ H35 : Heap, putA fl H32 b33 o34 1 e28 = some H35 ∧ ∃ m36 : Nat, m36 < m15 ∧ J13 m36 (IntKind.wrap .i64 (j16 - 1)) H35) ∧ (¬(r23 < 0) → ∃ m37 : Nat, m37 < m7 ∧ J5 m37 (IntKind.wrap .i64 (i8 + 1)) H24))) ∧ (¬(j16 > a1) → ∃ m38 : Nat, m38 < m7 ∧ J5 m38 (IntKind.wrap .i64 (i8 + 1)) H18))) ∧ (¬(i8 < b2) → Q .undef H12))) : Ret F fl me [data0, (.int .i64 a1), (.int .i64 b2), (.func cmpg3 cmpc4)] H Q := by
  refine ret_intro hF rfl ?_
  refine w_seq ?_
  refine w_run [0, 0, 0] ?_
  refine t_done [data0, (.int .i64 a1), (.int .i64 b2), (.func cmpg3 cmpc4), (.int .i64 (IntKind.wrap .i64 (a1 + 1))), .undef, .undef, .undef] H (by kernel_rfl) ?_
  refine then_norm ?_
  refine w_block ?_
  obtain ⟨J5, k6, h0, h⟩ := h
  refine w_loop (I := fun mI EI HI => ∃ (i8 : Int) (d9 : AV) (d10 : AV) (d11 : AV), EI = [data0, (.int .i64 a1), (.int .i64 b2), (.func cmpg3 cmpc4), (.int .i64 i8), d9, d10, d11] ∧ J5 mI i8 HI) ?_ k6 ⟨_, _, _, _, rfl, h0⟩
  clear h0
  rintro m7 EI H12 ⟨i8, d9, d10, d11, rfl, hJ⟩
  replace h := h m7 i8 H12 hJ
  clear hJ
  refine w_seq ?_
  refine w_seq ?_
  refine w_run [0, 0, 0] ?_
  refine t_done [data0, (.int .i64 a1), (.int .i64 b2), (.func cmpg3 cmpc4), (.int .i64 i8), (.bool (decide (i8 < b2))), d10, d11] H12 (by kernel_rfl) ?_
  refine then_norm ?_
  refine w_cond (t := (decide (i8 < b2))) rfl (fun hc => ?_) (fun hc => ?_)
  · replace h := h.1 (is_dec.t hc)
    refine w_skip ?_
    refine then_norm ?_
    refine w_seq ?_
    refine w_block ?_
    refine w_seq ?_
    refine w_run [0, 0] ?_
    refine t_done [data0, (.int .i64 a1), (.int .i64 b2), (.func cmpg3 cmpc4), (.int .i64 i8), (.bool (decide (i8 < b2))), (.int .i64 i8), d11] H12 (by kernel_rfl) ?_
    refine then_norm ?_
    refine w_block ?_
    obtain ⟨J13, k14, h0, h⟩ := h
    refine w_loop (I := fun mI EI HI => ∃ (j16 : Int) (d17 : AV), EI = [data0, (.int .i64 a1), (.int .i64 b2), (.func cmpg3 cmpc4), (.int .i64 i8), (.bool (decide (i8 < b2))), (.int .i64 j16), d17] ∧ J13 mI j16 HI) ?_ k14 ⟨_, _, rfl, h0⟩
    clear h0
    rintro m15 EI H18 ⟨j16, d17, rfl, hJ⟩
    replace h := h m15 j16 H18 hJ
    clear hJ
    refine w_seq ?_
    refine w_seq ?_
    refine w_run [0, 0, 0, 0, 0, 0, 0, 3, 3, 0, 0, 0, 3, 3, 3, 2, 0] ?_
    refine t_gd (decide (j16 > a1)) true (by kernel_rfl) (fun hc => ?_) (fun hc => ?_)
    · replace h := h.1 (is_dec.t hc)
      obtain ⟨e19, hg20, h⟩ := h
      refine t_idxG false 1 data0 .i64 j16 H18 (by kernel_rfl) hg20 ?_
      refine t_gd true true (by kernel_rfl) (fun _ => ?_) (fun hn => by cases hn)
      refine t_loadG false none 1 data0 j16 0 e19 H18 (by kernel_rfl) hg20 ?_
      refine t_gd true true (by kernel_rfl) (fun _ => ?_) (fun hn => by cases hn)
      obtain ⟨e21, hg22, h⟩ := h
      refine t_idxG false 1 data0 .i64 (IntKind.wrap .i64 (j16 - 1)) H18 (by kernel_rfl) hg22 ?_
      refine t_gd true true (by kernel_rfl) (fun _ => ?_) (fun hn => by cases hn)
      refine t_loadG false none 1 data0 (IntKind.wrap .i64 (j16 - 1)) 0 e21 H18 (by kernel_rfl) hg22 ?_
      refine t_gd true true (by kernel_rfl) (fun _ => ?_) (fun hn => by cases hn)
      refine t_call true cmpg3 (([e19, e21] : List AV) ++ cmpc4) H18 (by kernel_rfl) h ?_
      clear h
      rintro _ H24 ⟨r23, rfl, h⟩
      refine t_gd true true (by kernel_rfl) (fun _ => ?_) (fun hn => by cases hn)
      refine t_done [data0, (.int .i64 a1), (.int .i64 b2), (.func cmpg3 cmpc4), (.int .i64 i8), (.bool (decide (i8 < b2))), (.int .i64 j16), (.bool (decide (r23 < 0)))] H24 (by kernel_rfl) ?_
      refine then_norm ?_
      refine w_cond (t := (decide (r23 < 0))) rfl (fun hc => ?_) (fun hc => ?_)
      · replace h := h.1 (is_dec.t hc)
        refine w_skip ?_
        refine then_norm ?_
        refine w_seq ?_
        refine w_block ?_
        refine w_run [0, 0, 0, 0, 0, 0, 0, 0, 1, 1, 0, 0, 1, 1, 1, 1, 1, 1] ?_
        obtain ⟨e26, hg27, h⟩ := h
        refine t_idxG false 1 data0 .i64 (IntKind.wrap .i64 (j16 - 1)) H24 (by kernel_rfl) hg27 ?_
        refine t_loadG false none 1 data0 (IntKind.wrap .i64 (j16 - 1)) 0 e26 H24 (by kernel_rfl) hg27 ?_
        obtain ⟨e28, hg29, h⟩ := h
        refine t_idxG false 1 data0 .i64 j16 H24 (by kernel_rfl) hg29 ?_
        refine t_loadG false none 1 data0 j16 0 e28 H24 (by kernel_rfl) hg29 ?_
        obtain ⟨b30, o31, hp, h⟩ := h
        refine t_idx true 1 data0 .i64 j16 b30 o31 H24 (by kernel_rfl) hp ?_
        obtain ⟨H32, hp, h⟩ := h
        refine t_store true 1 b30 o31 e26 H32 H24 (by kernel_rfl) hp ?_
        obtain ⟨b33, o34, hp, h⟩ := h
        refine t_idx true 1 data0 .i64 (IntKind.wrap .i64 (j16 - 1)) b33 o34 H32 (by kernel_rfl) hp ?_
        obtain ⟨H35, hp, h⟩ := h
        refine t_store true 1 b33 o34 e28 H35 H32 (by kernel_rfl) hp ?_
        refine t_done [data0, (.int .i64 a1), (.int .i64 b2), (.func cmpg3 cmpc4), (.int .i64 i8), (.bool (decide (i8 < b2))), (.int .i64 j16), (.bool (decide (r23 < 0)))] H35 (by kernel_rfl) ?_
        refine block_norm ?_
        refine then_norm ?_
        refine w_run [0, 0, 0] ?_
        refine t_done [data0, (.int .i64 a1), (.int .i64 b2), (.func cmpg3 cmpc4), (.int .i64 i8), (.bool (decide (i8 < b2))), (.int .i64 (IntKind.wrap .i64 (j16 - 1))), (.bool (decide (r23 < 0)))] H35 (by kernel_rfl) ?_
        obtain ⟨m', hm, h⟩ := h
        refine loop_norm ⟨m', hm, _, _, rfl, h⟩
      · replace h := h.2 (is_dec.f hc)
        refine w_exit ?_
        refine then_exit ?_
        refine loop_exit ?_
        refine block_exit ?_
        refine block_norm ?_
        refine then_norm ?_
        refine w_run [0, 0, 0] ?_
        refine t_done [data0, (.int .i64 a1), (.int .i64 b2), (.func cmpg3 cmpc4), (.int .i64 (IntKind.wrap .i64 (i8 + 1))), (.bool (decide (i8 < b2))), (.int .i64 j16), (.bool (decide (r23 < 0)))] H24 (by kernel_rfl) ?_
        obtain ⟨m', hm, h⟩ := h
        refine loop_norm ⟨m', hm, _, _, _, _, rfl, h⟩
    · replace h := h.2 (is_dec.f hc)
      refine t_gd false true (by kernel_rfl) (fun hn => by cases hn) (fun _ => ?_)
      refine t_gd false true (by kernel_rfl) (fun hn => by cases hn) (fun _ => ?_)
      refine t_gd false true (by kernel_rfl) (fun hn => by cases hn) (fun _ => ?_)
      refine t_gd false true (by kernel_rfl) (fun hn => by cases hn) (fun _ => ?_)
      refine t_gd false true (by kernel_rfl) (fun hn => by cases hn) (fun _ => ?_)
      refine t_done [data0, (.int .i64 a1), (.int .i64 b2), (.func cmpg3 cmpc4), (.int .i64 i8), (.bool (decide (i8 < b2))), (.int .i64 j16), (.bool false)] H18 (by kernel_rfl) ?_
      refine then_norm ?_
      refine w_cond (t := false) rfl (fun hc => by cases hc) (fun _ => ?_)
      refine w_exit ?_
      refine then_exit ?_
      refine loop_exit ?_
      refine block_exit ?_
      refine block_norm ?_
      refine then_norm ?_
      refine w_run [0, 0, 0] ?_
      refine t_done [data0, (.int .i64 a1), (.int .i64 b2), (.func cmpg3 cmpc4), (.int .i64 (IntKind.wrap .i64 (i8 + 1))), (.bool (decide (i8 < b2))), (.int .i64 j16), (.bool false)] H18 (by kernel_rfl) ?_
      obtain ⟨m', hm, h⟩ := h
      refine loop_norm ⟨m', hm, _, _, _, _, rfl, h⟩
  · replace h := h.2 (is_dec.f hc)
    refine w_exit ?_
    refine then_exit ?_
    refine loop_exit ?_
    refine block_exit ?_
    exact body_norm (vs := []) _ (by kernel_rfl) rfl h

def rf_deadline_system_try (ndeadline_system_receive : Nat) : RFunc := ⟨3, 21, [.var 3, .var 4, .var 5],
 ((.seq (.ops [⟨.tomb 1 (.var 1), none, (some 6), true⟩, ⟨.move (.k (.int .i64 0)), none, (some 3), true⟩, ⟨.move (.k (.int .i64 0)), none, (some 4), true⟩, ⟨.move (.k (.bool false)), none, (some 5), true⟩])
 ((.seq ((.seq (.ops [⟨.field 0 none (.var 6), none, none, true⟩, ⟨.field 0 none (.var 6), none, (some 7), true⟩])
 (.block 0 ((.seq (.ops [⟨.bin .eql .no (.var 7) (.k (.int .i64 1)), none, none, true⟩, ⟨.move (.loc 0), none, (some 8), true⟩])
 (.cond (.var 8) ((.seq ((.seq (.ops [⟨.move (.var 0), none, none, false⟩, ⟨.nilCheck (.loc 0), none, none, false⟩, ⟨.fieldAddr 1 (.loc 1), none, none, false⟩, ⟨.load none (.loc 2), none, none, false⟩, ⟨.field 0 none (.var 6), none, none, false⟩, ⟨.field 1 none (.var 6), none, none, false⟩, ⟨.indexAddr 1 (.loc 3) (.loc 5), none, none, false⟩, ⟨.load none (.loc 6), none, none, false⟩, ⟨.len (.loc 7), none, none, false⟩, ⟨.move (.var 0), none, none, false⟩, ⟨.nilCheck (.loc 9), none, none, false⟩, ⟨.fieldAddr 0 (.loc 10), none, none, false⟩, ⟨.load none (.loc 11), none, none, false⟩, ⟨.field 0 none (.var 6), none, none, false⟩, ⟨.field 1 none (.var 6), none, none, false⟩, ⟨.indexAddr 1 (.loc 12) (.loc 14), none, none, false⟩, ⟨.load none (.loc 15), none, none, false⟩, ⟨.bin .eql .no (.loc 8) (.loc 16), none, (some 9), true⟩])
 (.cond (.var 9) ((.seq (.ops [⟨.move (.k (.int .i64 0)), none, (some 3), true⟩, ⟨.move (.k (.int .i64 0)), none, (some 4), true⟩, ⟨.move (.k (.bool false)), none, (some 5), true⟩])
 (.ret))) (.skip))))
 ((.seq (.ops [⟨.move (.var 0), none, none, false⟩, ⟨.nilCheck (.loc 0), none, none, false⟩, ⟨.fieldAddr 1 (.loc 1), none, none, false⟩, ⟨.load none (.loc 2), none, none, false⟩, ⟨.field 0 none (.var 6), none, none, false⟩, ⟨.field 1 none (.var 6), none, none, false⟩, ⟨.move (.var 0), none, none, false⟩, ⟨.nilCheck (.loc 6), none, none, false⟩, ⟨.fieldAddr 1 (.loc 7), none, none, false⟩, ⟨.load none (.loc 8), none, none, false⟩, ⟨.field 0 none (.var 6), none, none, false⟩, ⟨.field 1 none (.var 6), none, none, false⟩, ⟨.indexAddr 1 (.loc 9) (.loc 11), none, none, false⟩, ⟨.load none (.loc 12), none, none, false⟩, ⟨.field 0 none (.var 6), none, none, false⟩, ⟨.field 2 none (.var 6), none, none, false⟩, ⟨.buildSlice 1 [.int .i64 0] [(0, 1, (.loc 15))] 1, none, none, false⟩, ⟨.append 1 8 (.loc 13) (.loc 16), none, none, false⟩, ⟨.indexAddr 1 (.loc 3) (.loc 5), none, none, true⟩, ⟨.store 1 (.loc 18) (.loc 17) [], none, none, true⟩])
 ((.seq (.ops [⟨.field 0 none (.var 6), none, none, false⟩, ⟨.field 1 none (.var 6), none, none, false⟩, ⟨.field 0 none (.var 6), none, none, false⟩, ⟨.field 2 none (.var 6), none, none, false⟩, ⟨.move (.loc 1), none, (some 3), false⟩, ⟨.move (.loc 3), none, (some 4), true⟩, ⟨.move (.k (.bool true)), none, (some 5), true⟩])
 (.ret))))))) ((.seq (.ops [⟨.bin .eql .no (.var 7) (.k (.int .i64 2)), none, none, true⟩, ⟨.move (.loc 0), none, (some 10), true⟩])
 (.cond (.var 10) ((.seq (.ops [⟨.move (.var 0), none, none, true⟩, ⟨.field 0 none (.var 6), none, none, true⟩, ⟨.field 1 none (.var 6), none, none, true⟩, ⟨.callS ndeadline_system_receive [(.loc 0), (.loc 2)], none, none, true⟩, ⟨.extract (.loc 3) 0, none, none, true⟩, ⟨.extract (.loc 3) 1, none, none, true⟩, ⟨.extract (.loc 3) 2, none, none, true⟩, ⟨.move (.loc 4), none, (some 3), true⟩, ⟨.move (.loc 5), none, (some 4), true⟩, ⟨.move (.loc 6), none, (some 5), true⟩])
 (.ret))) ((.seq (.ops [⟨.bin .eql .no (.var 7) (.k (.int .i64 3)), none, none, true⟩, ⟨.move (.loc 0), none, (some 11), true⟩])
 (.cond (.var 11) ((.seq ((.seq (.ops [⟨.field 0 none (.var 6), none, none, true⟩, ⟨.field 4 none (.var 6), none, (some 15), true⟩, ⟨.len (.loc 1), none, (some 13), true⟩, ⟨.move (.k (.int .i64 0)), none, (some 12), true⟩])
 (.block 1 (.loop ((.seq (.ops [⟨.bin .lss .no (.var 12) (.var 13), none, (some 14), true⟩])
 ((.seq (.cond (.var 14) (.skip) (.exit 1))
 ((.seq (.block 2 ((.seq (.ops [⟨.indexAddr 1 (.var 15) (.var 12), none, none, true⟩, ⟨.load none (.loc 0), none, none, true⟩, ⟨.move (.loc 1), none, (some 16), true⟩])
 ((.seq (.ops [⟨.move (.var 0), none, none, true⟩, ⟨.move (.var 16), none, none, true⟩, ⟨.callS ndeadline_system_receive [(.loc 0), (.loc 1)], none, none, true⟩, ⟨.move (.loc 2), none, none, true⟩, ⟨.extract (.loc 3) 0, none, none, true⟩, ⟨.extract (.loc 3) 1, none, none, true⟩, ⟨.extract (.loc 3) 2, none, none, true⟩, ⟨.move (.loc 4), none, (some 19), true⟩, ⟨.move (.loc 5), none, (some 20), true⟩, ⟨.move (.loc 6), none, (some 17), true⟩])
 ((.seq (.ops [⟨.move (.var 17), none, (some 18), true⟩])
 (.cond (.var 18) ((.seq (.ops [⟨.move (.var 19), none, none, true⟩, ⟨.move (.var 20), none, none, true⟩, ⟨.move (.var 17), none, none, true⟩, ⟨.move (.loc 0), none, (some 3), true⟩, ⟨.move (.loc 1), none, (some 4), true⟩, ⟨.move (.loc 2), none, (some 5), true⟩])
 (.ret))) (.skip)))))))))
 (.ops [⟨.bin .add .no (.var 12) (.k (.int .i64 1)), none, none, true⟩, ⟨.move (.loc 0), none, (some 12), true⟩])))))))))))
 ((.seq (.ops [⟨.field 0 none (.var 6), none, none, true⟩, ⟨.field 3 none (.var 6), none, none, true⟩, ⟨.bin .geq .no (.loc 1) (.k (.int .i64 0)), none, none, true⟩, ⟨.move (.loc 2), none, none, true⟩, ⟨.move (.var 2), none, none, false⟩, ⟨.field 0 none (.var 6), none, none, true⟩, ⟨.field 3 none (.var 6), none, none, true⟩, ⟨.bin .geq .no (.loc 4) (.loc 6), none, none, true⟩, ⟨.pick (.loc 3) (.loc 7) (.k (.bool false)), none, none, true⟩, ⟨.move (.k (.int .i64 (-1))), none, (some 3), false⟩, ⟨.move (.k (.int .i64 0)), none, (some 4), false⟩, ⟨.move (.loc 8), none, (some 5), true⟩])
 (.ret))))) (.skip)))))))))))))
 ((.seq (.ops [⟨.move (.var 2), none, none, false⟩, ⟨.field 0 none (.var 6), none, none, true⟩, ⟨.field 3 none (.var 6), none, none, true⟩, ⟨.bin .geq .no (.loc 0) (.loc 2), none, none, true⟩, ⟨.move (.k (.int .i64 (-1))), none, (some 3), false⟩, ⟨.move (.k (.int .i64 0)), none, (some 4), false⟩, ⟨.move (.loc 3), none, (some 5), true⟩])
 (.ret))))))), none⟩
theorem v_deadline_system_try {F : Nat → Option RFunc} {me ndeadline_system_receive : Nat} (hF : F me = some (rf_deadline_system_try ndeadline_system_receive)) {fl : Nat} {H : Heap} {Q : AV → Heap → Prop} (sb0 : Nat) (so1 : Nat) (o2 : Int) (o3 : Int) (o4 : Int) (o5 : Int) (o6 : AV) (waited7 : Int)
  (h : ∀ (H8 : Heap), Dead1 H 1 H8 → ((o2 = 1) → ∃ (e9 : AV), rload H8 none sb0 (so1 + 1) = some e9 ∧ ∃ (e10 : AV), getA H8 1 none e9 o3 0 = some e10 ∧ ∃ len12 : Nat, lenA e10 = some len12 ∧ ∃ (e13 : AV), rload H8 none sb0 so1 = some e13 ∧ ∃ (e14 : Int), getA H8 1 none e13 o3 0 = some (.int .i64 e14) ∧ (((len12 : Int) = e14) → Q (.tuple [(.int .i64 0), (.int .i64 0), (.bool false)]) H8) ∧ (¬((len12 : Int) = e14) → ∃ (e16 : AV), rload H8 none sb0 (so1 + 1) = some e16 ∧ ∃ (e17 : AV), rload H8 none sb0 (so1 + 1) = some e17 ∧ ∃ (e18 : AV), getA H8 1 none e17 o3 0 = some e18 ∧ ∀ (b20 : Nat) (H21 : Heap), NewB H8 1 [(.int .i64 o4)] b20 H21 → ∃ (a22 : AV) (H23 : Heap), appA fl false 1 8 H21 e18 (.slice b20 0 1 (some 1)) = some (a22, H23) ∧ ∃ b24 o25 : Nat, ptrA 1 e16 o3 = some (b24, o25) ∧ ∃ H26 : Heap, putA fl H23 b24 o25 1 a22 = some H26 ∧ Q (.tuple [(.int .i64 o3), (.int .i64 o4), (.bool true)]) H26)) ∧ (¬(o2 = 1) → ((o2 = 2) → Ret F fl ndeadline_system_receive [(.ptr sb0 so1), (.int .i64 o3)] H8 (fun v31 H30 => ∃ (r27 : Int) (r28 : Int) (r29 : Bool), v31 = (.tuple [(.int .i64 r27), (.int .i64 r28), (.bool r29)]) ∧ Q (.tuple [(.int .i64 r27), (.int .i64 r28), (.bool r29)]) H30)) ∧ (¬(o2 = 2) → ((o2 = 3) → ∃ len32 : Nat, lenA o6 = some len32 ∧ ∃ (J33 : Nat → Int → Heap → Prop) (k34 : Nat), J33 k34 0 H8 ∧ (∀ (m35 : Nat) (v39 : Int) (H46 : Heap), J33 m35 v39 H46 → ((v39 < (len32 : Int)) → ∃ (e47 : Int), getA H46 1 none o6 v39 0 = some (.int .i64 e47) ∧ Ret F fl ndeadline_system_receive [(.ptr sb0 so1), (.int .i64 e47)] H46 (fun v53 H52 => ∃ (r49 : Int) (r50 : Int) (r51 : Bool), v53 = (.tuple [(.int .i64 r49), (.int .i64 r50), (.bool r51)]) ∧ ((r51 = true) → Q (.tuple [(.int .i64 r49), (.int .i64 r50), (.bool r51)]) H52) ∧ (¬(r51 = true) → ∃ m54 : Nat, m54 < m35 ∧ J33 m54 (IntKind.wrap .i64 (v39 + 1)) H52))) ∧ (¬(v39 < (len32 : Int)) → Q (.tuple [(.int .i64 (-1)), (.int .i64 0), (.bool ((decide (o5 ≥ 0)) && (decide (waited7 ≥ o5))))]) H46))) ∧ (¬(o2 = 3) → Q (.tuple [(.int .i64 (-1)), (.int .i64 0), (.bool (decide (waited7 ≥ o5)))]) H8)))) : Ret F fl me [(.ptr sb0 so1), (.agg [(.int .i64 o2), (.int .i64 o3), (.int .i64 o4), (.int .i64 o5), o6]), (.int .i64 waited7)] H Q := by
  refine ret_intro hF rfl ?_
  refine w_seq ?_
  refine w_run [1, 0, 0, 0] ?_
  obtain ⟨H8, hb⟩ : ∃ H', Dead1 H 1 H' := ⟨_, ⟨rfl⟩⟩
  replace h := h H8 hb
  refine t_tomb true 1 (.agg [(.int .i64 o2), (.int .i64 o3), (.int .i64 o4), (.int .i64 o5), o6]) [(.int .i64 o2), (.int .i64 o3), (.int .i64 o4), (.int .i64 o5), o6] H8 H (by kernel_rfl) rfl hb ?_
  refine t_done [(.ptr sb0 so1), (.agg [(.int .i64 o2), (.int .i64 o3), (.int .i64 o4), (.int .i64 o5), o6]), (.int .i64 waited7), (.int .i64 0), (.int .i64 0), (.bool false), (.agg [(.int .i64 o2), (.int .i64 o3), (.int .i64 o4), (.int .i64 o5), o6]), .undef, .undef, .undef, .undef, .undef, .undef, .undef, .undef, .undef, .undef, .undef, .undef, .undef, .undef] H8 (by kernel_rfl) ?_
  refine then_norm ?_
  refine w_seq ?_
  refine w_seq ?_
  refine w_run [0, 0] ?_
  refine t_done [(.ptr sb0 so1), (.agg [(.int .i64 o2), (.int .i64 o3), (.int .i64 o4), (.int .i64 o5), o6]), (.int .i64 waited7), (.int .i64 0), (.int .i64 0), (.bool false), (.agg [(.int .i64 o2), (.int .i64 o3), (.int .i64 o4), (.int .i64 o5), o6]), (.int .i64 o2), .undef, .undef, .undef, .undef, .undef, .undef, .undef, .undef, .undef, .undef, .undef, .undef, .undef] H8 (by kernel_rfl) ?_
  refine then_norm ?_
  refine w_block ?_
  refine w_seq ?_
  refine w_run [0, 0] ?_
  refine t_done [(.ptr sb0 so1), (.agg [(.int .i64 o2), (.int .i64 o3), (.int .i64 o4), (.int .i64 o5), o6]), (.int .i64 waited7), (.int .i64 0), (.int .i64 0), (.bool false), (.agg [(.int .i64 o2), (.int .i64 o3), (.int .i64 o4), (.int .i64 o5), o6]), (.int .i64 o2), (.bool ((o2) == 1)), .undef, .undef, .undef, .undef, .undef, .undef, .undef, .undef, .undef, .undef, .undef, .undef] H8 (by kernel_rfl) ?_
  refine then_norm ?_
  refine w_cond (t := ((o2) == 1)) rfl (fun hc => ?_) (fun hc => ?_)
  · replace h := h.1 (is_eq.t hc)
    refine w_seq ?_
    refine w_seq ?_
    refine w_run [0, 1, 1, 1, 0, 0, 1, 1, 1, 0, 1, 1, 1, 0, 0, 1, 1, 0] ?_
    refine t_ptr false sb0 so1 H8 (by kernel_rfl) ?_
    refine t_op false (.fieldAddr 1 (.loc 0)) [.ptr sb0 so1] H8 (.ptr sb0 (so1 + 1)) H8 (by kernel_rfl) rfl ?_
    obtain ⟨e9, hl, h⟩ := h
    refine t_load false none sb0 (so1 + 1) e9 H8 (by kernel_rfl) hl ?_
    obtain ⟨e10, hg11, h⟩ := h
    refine t_idxG false 1 e9 .i64 o3 H8 (by kernel_rfl) hg11 ?_
    refine t_loadG false none 1 e9 o3 0 e10 H8 (by kernel_rfl) hg11 ?_
    obtain ⟨len12, hl, h⟩ := h
    refine t_len false e10 len12 H8 (by kernel_rfl) hl ?_
    refine t_ptr false sb0 so1 H8 (by kernel_rfl) ?_
    refine t_op false (.fieldAddr 0 (.loc 0)) [.ptr sb0 so1] H8 (.ptr sb0 so1) H8 (by kernel_rfl) rfl ?_
    obtain ⟨e13, hl, h⟩ := h
    refine t_load false none sb0 so1 e13 H8 (by kernel_rfl) hl ?_
    obtain ⟨e14, hg15, h⟩ := h
    refine t_idxG false 1 e13 .i64 o3 H8 (by kernel_rfl) hg15 ?_
    refine t_loadG false none 1 e13 o3 0 (.int .i64 e14) H8 (by kernel_rfl) hg15 ?_
    refine t_done [(.ptr sb0 so1), (.agg [(.int .i64 o2), (.int .i64 o3), (.int .i64 o4), (.int .i64 o5), o6]), (.int .i64 waited7), (.int .i64 0), (.int .i64 0), (.bool false), (.agg [(.int .i64 o2), (.int .i64 o3), (.int .i64 o4), (.int .i64 o5), o6]), (.int .i64 o2), (.bool ((o2) == 1)), (.bool (((len12 : Int)) == e14)), .undef, .undef, .undef, .undef, .undef, .undef, .undef, .undef, .undef, .undef, .undef] H8 (by kernel_rfl) ?_
    refine then_norm ?_
    refine w_cond (t := (((len12 : Int)) == e14)) rfl (fun hc => ?_) (fun hc => ?_)
    · replace h := h.1 (is_eq.t hc)
      refine w_seq ?_
      refine w_run [0, 0, 0] ?_
      refine t_done [(.ptr sb0 so1), (.agg [(.int .i64 o2), (.int .i64 o3), (.int .i64 o4), (.int .i64 o5), o6]), (.int .i64 waited7), (.int .i64 0), (.int .i64 0), (.bool false), (.agg [(.int .i64 o2), (.int .i64 o3), (.int .i64 o4), (.int .i64 o5), o6]), (.int .i64 o2), (.bool ((o2) == 1)), (.bool (((len12 : Int)) == e14)), .undef, .undef, .undef, .undef, .undef, .undef, .undef, .undef, .undef, .undef, .undef] H8 (by kernel_rfl) ?_
      refine then_norm ?_
      refine w_ret ?_
      refine then_ret ?_
      refine block_ret ?_
      refine then_ret ?_
      exact body_ret (vs := [(.int .i64 0), (.int .i64 0), (.bool false)]) _ (by kernel_rfl) rfl h
    · replace h := h.2 (is_eq.f hc)
      refine w_skip ?_
      refine then_norm ?_
      refine w_seq ?_
      refine w_run [0, 1, 1, 1, 0, 0, 0, 1, 1, 1, 0, 0, 1, 1, 0, 0, 1, 1, 1, 1] ?_
      refine t_ptr false sb0 so1 H8 (by kernel_rfl) ?_
      refine t_op false (.fieldAddr 1 (.loc 0)) [.ptr sb0 so1] H8 (.ptr sb0 (so1 + 1)) H8 (by kernel_rfl) rfl ?_
      obtain ⟨e16, hl, h⟩ := h
      refine t_load false none sb0 (so1 + 1) e16 H8 (by kernel_rfl) hl ?_
      refine t_ptr false sb0 so1 H8 (by kernel_rfl) ?_
      refine t_op false (.fieldAddr 1 (.loc 0)) [.ptr sb0 so1] H8 (.ptr sb0 (so1 + 1)) H8 (by kernel_rfl) rfl ?_
      obtain ⟨e17, hl, h⟩ := h
      refine t_load false none sb0 (so1 + 1) e17 H8 (by kernel_rfl) hl ?_
      obtain ⟨e18, hg19, h⟩ := h
      refine t_idxG false 1 e17 .i64 o3 H8 (by kernel_rfl) hg19 ?_
      refine t_loadG false none 1 e17 o3 0 e18 H8 (by kernel_rfl) hg19 ?_
      obtain ⟨b20, H21, hb⟩ : ∃ b H', NewB H8 1 [(.int .i64 o4)] b H' := ⟨_, _, rfl, rfl⟩
      replace h := h b20 H21 hb
      refine t_bs false 1 [(.int .i64 0)] [(0, 1, .loc 0)] 1 [(.int .i64 o4)] [(.int .i64 o4)] b20 H21 H8 (by kernel_rfl) (fill_c (vs := [(.int .i64 o4)]) (size := 1) rfl (by kernel_rfl) (by kernel_rfl) (by kernel_rfl)) hb ?_
      obtain ⟨a22, H23, ha, h⟩ := h
      refine t_app false 1 8 e18 (.slice b20 0 1 (some 1)) a22 H23 H21 (by kernel_rfl) ha ?_
      obtain ⟨b24, o25, hp, h⟩ := h
      refine t_idx true 1 e16 .i64 o3 b24 o25 H23 (by kernel_rfl) hp ?_
      obtain ⟨H26, hp, h⟩ := h
      refine t_store true 1 b24 o25 a22 H26 H23 (by kernel_rfl) hp ?_
      refine t_done [(.ptr sb0 so1), (.agg [(.int .i64 o2), (.int .i64 o3), (.int .i64 o4), (.int .i64 o5), o6]), (.int .i64 waited7), (.int .i64 0), (.int .i64 0), (.bool false), (.agg [(.int .i64 o2), (.int .i64 o3), (.int .i64 o4), (.int .i64 o5), o6]), (.int .i64 o2), (.bool ((o2) == 1)), (.bool (((len12 : Int)) == e14)), .undef, .undef, .undef, .undef, .undef, .undef, .undef, .undef, .undef, .undef, .undef] H26 (by kernel_rfl) ?_
      refine then_norm ?_
      refine w_seq ?_
      refine w_run [0, 0, 0, 0, 0, 0, 0] ?_
      refine t_done [(.ptr sb0 so1), (.agg [(.int .i64 o2), (.int .i64 o3), (.int .i64 o4), (.int .i64 o5), o6]), (.int .i64 waited7), (.int .i64 o3), (.int .i64 o4), (.bool true), (.agg [(.int .i64 o2), (.int .i64 o3), (.int .i64 o4), (.int .i64 o5), o6]), (.int .i64 o2), (.bool ((o2) == 1)), (.bool (((len12 : Int)) == e14)), .undef, .undef, .undef, .undef, .undef, .undef, .undef, .undef, .undef, .undef, .undef] H26 (by kernel_rfl) ?_
      refine then_norm ?_
      refine w_ret ?_
      refine block_ret ?_
      refine then_ret ?_
      exact body_ret (vs := [(.int .i64 o3), (.int .i64 o4), (.bool true)]) _ (by kernel_rfl) rfl h
  · replace h := h.2 (is_eq.f hc)
    refine w_seq ?_
    refine w_run [0, 0] ?_
    refine t_done [(.ptr sb0 so1), (.agg [(.int .i64 o2), (.int .i64 o3), (.int .i64 o4), (.int .i64 o5), o6]), (.int .i64 waited7), (.int .i64 0), (.int .i64 0), (.bool false), (.agg [(.int .i64 o2), (.int .i64 o3), (.int .i64 o4), (.int .i64 o5), o6]), (.int .i64 o2), (.bool ((o2) == 1)), .undef, (.bool ((o2) == 2)), .undef, .undef, .undef, .undef, .undef, .undef, .undef, .undef, .undef, .undef] H8 (by kernel_rfl) ?_
    refine then_norm ?_
    refine w_cond (t := ((o2) == 2)) rfl (fun hc => ?_) (fun hc => ?_)
    · replace h := h.1 (is_eq.t hc)
      refine w_seq ?_
      refine w_run [0, 0, 0, 1, 0, 0, 0, 0, 0, 0] ?_
      refine t_call true ndeadline_system_receive [(.ptr sb0 so1), (.int .i64 o3)] H8 (by kernel_rfl) h ?_
      clear h
      rintro _ H30 ⟨r27, r28, r29, rfl, h⟩
      refine t_done [(.ptr sb0 so1), (.agg [(.int .i64 o2), (.int .i64 o3), (.int .i64 o4), (.int .i64 o5), o6]), (.int .i64 waited7), (.int .i64 r27), (.int .i64 r28), (.bool r29), (.agg [(.int .i64 o2), (.int .i64 o3), (.int .i64 o4), (.int .i64 o5), o6]), (.int .i64 o2), (.bool ((o2) == 1)), .undef, (.bool ((o2) == 2)), .undef, .undef, .undef, .undef, .undef, .undef, .undef, .undef, .undef, .undef] H30 (by kernel_rfl) ?_
      refine then_norm ?_
      refine w_ret ?_
      refine block_ret ?_
      refine then_ret ?_
      exact body_ret (vs := [(.int .i64 r27), (.int .i64 r28), (.bool r29)]) _ (by kernel_rfl) rfl h
    · replace h := h.2 (is_eq.f hc)
      refine w_seq ?_
      refine w_run [0, 0] ?_
      refine t_done [(.ptr sb0 so1), (.agg [(.int .i64 o2), (.int .i64 o3), (.int .i64 o4), (.int .i64 o5), o6]), (.int .i64 waited7), (.int .i64 0), (.int .i64 0), (.bool false), (.agg [(.int .i64 o2), (.int .i64 o3), (.int .i64 o4), (.int .i64 o5), o6]), (.int .i64 o2), (.bool ((o2) == 1)), .undef, (.bool ((o2) == 2)), (.bool ((o2) == 3)), .undef, .undef, .undef, .undef, .undef, .undef, .undef, .undef, .undef] H8 (by kernel_rfl) ?_
      refine then_norm ?_
      refine w_cond (t := ((o2) == 3)) rfl (fun hc => ?_) (fun hc => ?_)
      · replace h := h.1 (is_eq.t hc)
        refine w_seq ?_
        refine w_seq ?_
        refine w_run [0, 0, 1, 0] ?_
        obtain ⟨len32, hl, h⟩ := h
        refine t_len true o6 len32 H8 (by kernel_rfl) hl ?_
        refine t_done [(.ptr sb0 so1), (.agg [(.int .i64 o2), (.int .i64 o3), (.int .i64 o4), (.int .i64 o5), o6]), (.int .i64 waited7), (.int .i64 0), (.int .i64 0), (.bool false), (.agg [(.int .i64 o2), (.int .i64 o3), (.int .i64 o4), (.int .i64 o5), o6]), (.int .i64 o2), (.bool ((o2) == 1)), .undef, (.bool ((o2) == 2)), (.bool ((o2) == 3)), (.int .i64 0), (.int .i64 (len32 : Int)), .undef, o6, .undef, .undef, .undef, .undef, .undef] H8 (by kernel_rfl) ?_
        refine then_norm ?_
        refine w_block ?_
        obtain ⟨J33, k34, h0, h⟩ := h
        refine w_loop (I := fun mI EI HI => ∃ (d36 : AV) (d37 : AV) (d38 : AV) (v39 : Int) (d40 : AV) (d41 : AV) (d42 : AV) (d43 : AV) (d44 : AV) (d45 : AV), EI = [(.ptr sb0 so1), (.agg [(.int .i64 o2), (.int .i64 o3), (.int .i64 o4), (.int .i64 o5), o6]), (.int .i64 waited7), d36, d37, d38, (.agg [(.int .i64 o2), (.int .i64 o3), (.int .i64 o4), (.int .i64 o5), o6]), (.int .i64 o2), (.bool ((o2) == 1)), .undef, (.bool ((o2) == 2)), (.bool ((o2) == 3)), (.int .i64 v39), (.int .i64 (len32 : Int)), d40, o6, d41, d42, d43, d44, d45] ∧ J33 mI v39 HI) ?_ k34 ⟨_, _, _, _, _, _, _, _, _, _, rfl, h0⟩
        clear h0
        rintro m35 EI H46 ⟨d36, d37, d38, v39, d40, d41, d42, d43, d44, d45, rfl, hJ⟩
        replace h := h m35 v39 H46 hJ
        clear hJ
        refine w_seq ?_
        refine w_run [0] ?_
        refine t_done [(.ptr sb0 so1), (.agg [(.int .i64 o2), (.int .i64 o3), (.int .i64 o4), (.int .i64 o5), o6]), (.int .i64 waited7), d36, d37, d38, (.agg [(.int .i64 o2), (.int .i64 o3), (.int .i64 o4), (.int .i64 o5), o6]), (.int .i64 o2), (.bool ((o2) == 1)), .undef, (.bool ((o2) == 2)), (.bool ((o2) == 3)), (.int .i64 v39), (.int .i64 (len32 : Int)), (.bool (decide (v39 < (len32 : Int)))), o6, d41, d42, d43, d44, d45] H46 (by kernel_rfl) ?_
        refine then_norm ?_
        refine w_seq ?_
        refine w_cond (t := (decide (v39 < (len32 : Int)))) rfl (fun hc => ?_) (fun hc => ?_)
        · replace h := h.1 (is_dec.t hc)
          refine w_skip ?_
          refine then_norm ?_
          refine w_seq ?_
          refine w_block ?_
          refine w_seq ?_
          refine w_run [1, 1, 0] ?_
          obtain ⟨e47, hg48, h⟩ := h
          refine t_idxG true 1 o6 .i64 v39 H46 (by kernel_rfl) hg48 ?_
          refine t_loadG true none 1 o6 v39 0 (.int .i64 e47) H46 (by kernel_rfl) hg48 ?_
          refine t_done [(.ptr sb0 so1), (.agg [(.int .i64 o2), (.int .i64 o3), (.int .i64 o4), (.int .i64 o5), o6]), (.int .i64 waited7), d36, d37, d38, (.agg [(.int .i64 o2), (.int .i64 o3), (.int .i64 o4), (.int .i64 o5), o6]), (.int .i64 o2), (.bool ((o2) == 1)), .undef, (.bool ((o2) == 2)), (.bool ((o2) == 3)), (.int .i64 v39), (.int .i64 (len32 : Int)), (.bool (decide (v39 < (len32 : Int)))), o6, (.int .i64 e47), d42, d43, d44, d45] H46 (by kernel_rfl) ?_
          refine then_norm ?_
          refine w_seq ?_
          refine w_run [0, 0, 1, 0, 0, 0, 0, 0, 0, 0] ?_
          refine t_call true ndeadline_system_receive [(.ptr sb0 so1), (.int .i64 e47)] H46 (by kernel_rfl) h ?_
          clear h
          rintro _ H52 ⟨r49, r50, r51, rfl, h⟩
          refine t_done [(.ptr sb0 so1), (.agg [(.int .i64 o2), (.int .i64 o3), (.int .i64 o4), (.int .i64 o5), o6]), (.int .i64 waited7), d36, d37, d38, (.agg [(.int .i64 o2), (.int .i64 o3), (.int .i64 o4), (.int .i64 o5), o6]), (.int .i64 o2), (.bool ((o2) == 1)), .undef, (.bool ((o2) == 2)), (.bool ((o2) == 3)), (.int .i64 v39), (.int .i64 (len32 : Int)), (.bool (decide (v39 < (len32 : Int)))), o6, (.int .i64 e47), (.bool r51), d43, (.int .i64 r49), (.int .i64 r50)] H52 (by kernel_rfl) ?_
          refine then_norm ?_
          refine w_seq ?_
          refine w_run [0] ?_
          refine t_done [(.ptr sb0 so1), (.agg [(.int .i64 o2), (.int .i64 o3), (.int .i64 o4), (.int .i64 o5), o6]), (.int .i64 waited7), d36, d37, d38, (.agg [(.int .i64 o2), (.int .i64 o3), (.int .i64 o4), (.int .i64 o5), o6]), (.int .i64 o2), (.bool ((o2) == 1)), .undef, (.bool ((o2) == 2)), (.bool ((o2) == 3)), (.int .i64 v39), (.int .i64 (len32 : Int)), (.bool (decide (v39 < (len32 : Int)))), o6, (.int .i64 e47), (.bool r51), (.bool r51), (.int .i64 r49), (.int .i64 r50)] H52 (by kernel_rfl) ?_
          refine then_norm ?_
          refine w_cond (t := r51) rfl (fun hc => ?_) (fun hc => ?_)
          · replace h := h.1 (is_raw.t hc)
            refine w_seq ?_
            refine w_run [0, 0, 0, 0, 0, 0] ?_
            refine t_done [(.ptr sb0 so1), (.agg [(.int .i64 o2), (.int .i64 o3), (.int .i64 o4), (.int .i64 o5), o6]), (.int .i64 waited7), (.int .i64 r49), (.int .i64 r50), (.bool r51), (.agg [(.int .i64 o2), (.int .i64 o3), (.int .i64 o4), (.int .i64 o5), o6]), (.int .i64 o2), (.bool ((o2) == 1)), .undef, (.bool ((o2) == 2)), (.bool ((o2) == 3)), (.int .i64 v39), (.int .i64 (len32 : Int)), (.bool (decide (v39 < (len32 : Int)))), o6, (.int .i64 e47), (.bool r51), (.bool r51), (.int .i64 r49), (.int .i64 r50)] H52 (by kernel_rfl) ?_
            refine then_norm ?_
            refine w_ret ?_
            refine block_ret ?_
            refine then_ret ?_
            refine loop_ret ?_
            refine block_ret ?_
            refine then_ret ?_
            refine block_ret ?_
            refine then_ret ?_
            exact body_ret (vs := [(.int .i64 r49), (.int .i64 r50), (.bool r51)]) _ (by kernel_rfl) rfl h
          · replace h := h.2 (is_raw.f hc)
            refine w_skip ?_
            refine block_norm ?_
            refine then_norm ?_
            refine w_run [0, 0] ?_
            refine t_done [(.ptr sb0 so1), (.agg [(.int .i64 o2), (.int .i64 o3), (.int .i64 o4), (.int .i64 o5), o6]), (.int .i64 waited7), d36, d37, d38, (.agg [(.int .i64 o2), (.int .i64 o3), (.int .i64 o4), (.int .i64 o5), o6]), (.int .i64 o2), (.bool ((o2) == 1)), .undef, (.bool ((o2) == 2)), (.bool ((o2) == 3)), (.int .i64 (IntKind.wrap .i64 (v39 + 1))), (.int .i64 (len32 : Int)), (.bool (decide (v39 < (len32 : Int)))), o6, (.int .i64 e47), (.bool r51), (.bool r51), (.int .i64 r49), (.int .i64 r50)] H52 (by kernel_rfl) ?_
            obtain ⟨m', hm, h⟩ := h
            refine loop_norm ⟨m', hm, _, _, _, _, _, _, _, _, _, _, rfl, h⟩
        · replace h := h.2 (is_dec.f hc)
          refine w_exit ?_
          refine then_exit ?_
          refine loop_exit ?_
          refine block_exit ?_
          refine then_norm ?_
          refine w_seq ?_
          refine w_run [0, 0, 0, 0, 0, 0, 0, 0, 0, 0, 0, 0] ?_
          refine t_done [(.ptr sb0 so1), (.agg [(.int .i64 o2), (.int .i64 o3), (.int .i64 o4), (.int .i64 o5), o6]), (.int .i64 waited7), (.int .i64 (-1)), (.int .i64 0), (.bool ((decide (o5 ≥ 0)) && (decide (waited7 ≥ o5)))), (.agg [(.int .i64 o2), (.int .i64 o3), (.int .i64 o4), (.int .i64 o5), o6]), (.int .i64 o2), (.bool ((o2) == 1)), .undef, (.bool ((o2) == 2)), (.bool ((o2) == 3)), (.int .i64 v39), (.int .i64 (len32 : Int)), (.bool (decide (v39 < (len32 : Int)))), o6, d41, d42, d43, d44, d45] H46 (by kernel_rfl) ?_
          refine then_norm ?_
          refine w_ret ?_
          refine block_ret ?_
          refine then_ret ?_
          exact body_ret (vs := [(.int .i64 (-1)), (.int .i64 0), (.bool ((decide (o5 ≥ 0)) && (decide (waited7 ≥ o5))))]) _ (by kernel_rfl) rfl h
      · replace h := h.2 (is_eq.f hc)
        refine w_skip ?_
        refine block_norm ?_
        refine then_norm ?_
        refine w_seq ?_
        refine w_run [0, 0, 0, 0, 0, 0, 0] ?_
        refine t_done [(.ptr sb0 so1), (.agg [(.int .i64 o2), (.int .i64 o3), (.int .i64 o4), (.int .i64 o5), o6]), (.int .i64 waited7), (.int .i64 (-1)), (.int .i64 0), (.bool (decide (waited7 ≥ o5))), (.agg [(.int .i64 o2), (.int .i64 o3), (.int .i64 o4), (.int .i64 o5), o6]), (.int .i64 o2), (.bool ((o2) == 1)), .undef, (.bool ((o2) == 2)), (.bool ((o2) == 3)), .undef, .undef, .undef, .undef, .undef, .undef, .undef, .undef, .undef] H8 (by kernel_rfl) ?_
        refine then_norm ?_
        refine w_ret ?_
        exact body_ret (vs := [(.int .i64 (-1)), (.int .i64 0), (.bool (decide (waited7 ≥ o5)))]) _ (by kernel_rfl) rfl h

def rf_deadline_system_receive : RFunc := ⟨2, 7, [.var 2, .var 3, .var 4],
 ((.seq (.ops [⟨.move (.k (.int .i64 0)), none, (some 2), true⟩, ⟨.move (.k (.int .i64 0)), none, (some 3), true⟩, ⟨.move (.k (.bool false)), none, (some 4), true⟩])
 ((.seq (.ops [⟨.move (.var 0), none, none, true⟩, ⟨.nilCheck (.loc 0), none, none, true⟩, ⟨.fieldAddr 1 (.loc 1), none, none, true⟩, ⟨.load none (.loc 2), none, none, true⟩, ⟨.move (.var 1), none, none, true⟩, ⟨.indexAddr 1 (.loc 3) (.loc 4), none, none, true⟩, ⟨.load none (.loc 5), none, none, true⟩, ⟨.move (.loc 6), none, (some 5), true⟩])
 ((.seq ((.seq (.ops [⟨.move (.var 5), none, none, true⟩, ⟨.len (.loc 0), none, none, true⟩, ⟨.bin .eql .no (.loc 1) (.k (.int .i64 0)), none, (some 6), true⟩])
 (.cond (.var 6) ((.seq (.ops [⟨.move (.k (.int .i64 0)), none, (some 2), true⟩, ⟨.move (.k (.int .i64 0)), none, (some 3), true⟩, ⟨.move (.k (.bool false)), none, (some 4), true⟩])
 (.ret))) (.skip))))
 ((.seq (.ops [⟨.move (.var 0), none, none, true⟩, ⟨.nilCheck (.loc 0), none, none, true⟩, ⟨.fieldAddr 1 (.loc 1), none, none, true⟩, ⟨.load none (.loc 2), none, none, true⟩, ⟨.move (.var 1), none, none, false⟩, ⟨.move (.var 5), none, none, false⟩, ⟨.slice 1 (.loc 5) (some (.k (.int .i64 1))) none none, none, none, false⟩, ⟨.indexAddr 1 (.loc 3) (.loc 4), none, none, true⟩, ⟨.store 1 (.loc 7) (.loc 6) [], none, none, true⟩])
 ((.seq (.ops [⟨.move (.var 1), none, none, false⟩, ⟨.move (.var 5), none, none, true⟩, ⟨.indexAddr 1 (.loc 1) (.k (.int .i64 0)), none, none, true⟩, ⟨.load none (.loc 2), none, none, true⟩, ⟨.move (.loc 0), none, (some 2), false⟩, ⟨.move (.loc 3), none, (some 3), true⟩, ⟨.move (.k (.bool true)), none, (some 4), true⟩])
 (.ret))))))))))), none⟩
theorem v_deadline_system_receive {F : Nat → Option RFunc} {me : Nat} (hF : F me = some (rf_deadline_system_receive )) {fl : Nat} {H : Heap} {Q : AV → Heap → Prop} (sb0 : Nat) (so1 : Nat) (channel2 : Int)
  (h : ∃ (e3 : AV), rload H none sb0 (so1 + 1) = some e3 ∧ ∃ (e4 : AV), getA H 1 none e3 channel2 0 = some e4 ∧ ∃ len6 : Nat, lenA e4 = some len6 ∧ (((len6 : Int) = 0) → Q (.tuple [(.int .i64 0), (.int .i64 0), (.bool false)]) H) ∧ (¬((len6 : Int) = 0) → ∃ (e7 : AV), rload H none sb0 (so1 + 1) = some e7 ∧ ∃ s8 : AV, rslice H 1 e4 (some (.int .i64 1)) none none = some s8 ∧ ∃ b9 o10 : Nat, ptrA 1 e7 channel2 = some (b9, o10) ∧ ∃ H11 : Heap, putA fl H b9 o10 1 s8 = some H11 ∧ ∃ (e12 : Int), getA H11 1 none e4 0 0 = some (.int .i64 e12) ∧ Q (.tuple [(.int .i64 channel2), (.int .i64 e12), (.bool true)]) H11)) : Ret F fl me [(.ptr sb0 so1), (.int .i64 channel2)] H Q := by
  refine ret_intro hF rfl ?_
  refine w_seq ?_
  refine w_run [0, 0, 0] ?_
  refine t_done [(.ptr sb0 so1), (.int .i64 channel2), (.int .i64 0), (.int .i64 0), (.bool false), .undef, .undef] H (by kernel_rfl) ?_
  refine then_norm ?_
  refine w_seq ?_
  refine w_run [0, 1, 1, 1, 0, 1, 1, 0] ?_
  refine t_ptr true sb0 so1 H (by kernel_rfl) ?_
  refine t_op true (.fieldAddr 1 (.loc 0)) [.ptr sb0 so1] H (.ptr sb0 (so1 + 1)) H (by kernel_rfl) rfl ?_
  obtain ⟨e3, hl, h⟩ := h
  refine t_load true none sb0 (so1 + 1) e3 H (by kernel_rfl) hl ?_
  obtain ⟨e4, hg5, h⟩ := h
  refine t_idxG true 1 e3 .i64 channel2 H (by kernel_rfl) hg5 ?_
  refine t_loadG true none 1 e3 channel2 0 e4 H (by kernel_rfl) hg5 ?_
  refine t_done [(.ptr sb0 so1), (.int .i64 channel2), (.int .i64 0), (.int .i64 0), (.bool false), e4, .undef] H (by kernel_rfl) ?_
  refine then_norm ?_
  refine w_seq ?_
  refine w_seq ?_
  refine w_run [0, 1, 0] ?_
  obtain ⟨len6, hl, h⟩ := h
  refine t_len true e4 len6 H (by kernel_rfl) hl ?_
  refine t_done [(.ptr sb0 so1), (.int .i64 channel2), (.int .i64 0), (.int .i64 0), (.bool false), e4, (.bool (((len6 : Int)) == 0))] H (by kernel_rfl) ?_
  refine then_norm ?_
  refine w_cond (t := (((len6 : Int)) == 0)) rfl (fun hc => ?_) (fun hc => ?_)
  · replace h := h.1 (is_eq.t hc)
    refine w_seq ?_
    refine w_run [0, 0, 0] ?_
    refine t_done [(.ptr sb0 so1), (.int .i64 channel2), (.int .i64 0), (.int .i64 0), (.bool false), e4, (.bool (((len6 : Int)) == 0))] H (by kernel_rfl) ?_
    refine then_norm ?_
    refine w_ret ?_
    refine then_ret ?_
    exact body_ret (vs := [(.int .i64 0), (.int .i64 0), (.bool false)]) _ (by kernel_rfl) rfl h
  · replace h := h.2 (is_eq.f hc)
    refine w_skip ?_
    refine then_norm ?_
    refine w_seq ?_
    refine w_run [0, 1, 1, 1, 0, 0, 1, 1, 1] ?_
    refine t_ptr true sb0 so1 H (by kernel_rfl) ?_
    refine t_op true (.fieldAddr 1 (.loc 0)) [.ptr sb0 so1] H (.ptr sb0 (so1 + 1)) H (by kernel_rfl) rfl ?_
    obtain ⟨e7, hl, h⟩ := h
    refine t_load true none sb0 (so1 + 1) e7 H (by kernel_rfl) hl ?_
    obtain ⟨s8, hs, h⟩ := h
    refine t_slcL false 1 e4 (.int .i64 1) s8 H (by kernel_rfl) hs ?_
    obtain ⟨b9, o10, hp, h⟩ := h
    refine t_idx true 1 e7 .i64 channel2 b9 o10 H (by kernel_rfl) hp ?_
    obtain ⟨H11, hp, h⟩ := h
    refine t_store true 1 b9 o10 s8 H11 H (by kernel_rfl) hp ?_
    refine t_done [(.ptr sb0 so1), (.int .i64 channel2), (.int .i64 0), (.int .i64 0), (.bool false), e4, (.bool (((len6 : Int)) == 0))] H11 (by kernel_rfl) ?_
    refine then_norm ?_
    refine w_seq ?_
    refine w_run [0, 0, 1, 1, 0, 0, 0] ?_
    obtain ⟨e12, hg13, h⟩ := h
    refine t_idxG true 1 e4 .i64 0 H11 (by kernel_rfl) hg13 ?_
    refine t_loadG true none 1 e4 0 0 (.int .i64 e12) H11 (by kernel_rfl) hg13 ?_
    refine t_done [(.ptr sb0 so1), (.int .i64 channel2), (.int .i64 channel2), (.int .i64 e12), (.bool true), e4, (.bool (((len6 : Int)) == 0))] H11 (by kernel_rfl) ?_
    refine then_norm ?_
    refine w_ret ?_
    exact body_ret (vs := [(.int .i64 channel2), (.int .i64 e12), (.bool true)]) _ (by kernel_rfl) rfl h

def rf_deadline_Run (ndeadline_Validate ndeadline_newSystem ndeadline_system_step : Nat) : RFunc := ⟨3, 19, [.var 3, .var 4, .part 5 (some 2)],
 ((.seq (.ops [⟨.move (.k (.empty)), none, (some 3), true⟩, ⟨.move (.k (.empty)), none, (some 4), true⟩, ⟨.tomb 1 (.k (.agg [.int .i64 0, .int .i64 0])), none, (some 5), true⟩])
 ((.seq (.ops [⟨.move (.var 0), none, none, true⟩, ⟨.move (.var 1), none, none, true⟩, ⟨.callS ndeadline_Validate [(.loc 0), (.loc 1)], none, none, true⟩, ⟨.tomb 1 (.k (.agg [.int .i64 0, .int .i64 0])), none, (some 6), true⟩, ⟨.upd 2 0 (.loc 3) (.loc 2), none, (some 6), true⟩])
 ((.seq ((.seq (.ops [⟨.field 0 (some 2) (.var 6), none, none, true⟩, ⟨.build [.int .i64 0, .int .i64 0] [], none, none, true⟩, ⟨.bin .eql (.agg [.int, .int]) (.loc 0) (.loc 1), none, none, true⟩, ⟨.move (.loc 2), none, none, true⟩, ⟨.move (.var 2), none, none, true⟩, ⟨.bin .lss .no (.loc 4) (.k (.int .i64 0)), none, none, true⟩, ⟨.move (.loc 5), none, none, true⟩, ⟨.move (.var 2), none, none, true⟩, ⟨.bin .gtr .no (.loc 7) (.k (.int .i64 60)), none, none, true⟩, ⟨.pick (.loc 6) (.k (.bool true)) (.loc 8), none, none, true⟩, ⟨.pick (.loc 3) (.loc 9) (.k (.bool false)), none, (some 7), true⟩])
 (.cond (.var 7) (.ops [⟨.build [.int .i64 0, .int .i64 0] [(0, 1, (.k (.int .i64 3))), (1, 1, (.k (.int .i64 (-20))))], none, none, true⟩, ⟨.upd 2 0 (.var 6) (.loc 0), none, (some 6), true⟩]) (.skip))))
 ((.seq ((.seq (.ops [⟨.field 0 (some 2) (.var 6), none, none, true⟩, ⟨.build [.int .i64 0, .int .i64 0] [], none, none, true⟩, ⟨.bin .neq (.agg [.int, .int]) (.loc 0) (.loc 1), none, (some 8), true⟩])
 (.cond (.var 8) ((.seq (.ops [⟨.field 0 (some 2) (.var 6), none, none, true⟩, ⟨.move (.k (.empty)), none, (some 3), false⟩, ⟨.move (.k (.empty)), none, (some 4), false⟩, ⟨.upd 2 0 (.var 5) (.loc 0), none, (some 5), true⟩])
 (.ret))) (.skip))))
 ((.seq (.ops [⟨.move (.var 0), none, none, true⟩, ⟨.move (.var 1), none, none, true⟩, ⟨.callS ndeadline_newSystem [(.loc 0), (.loc 1)], none, none, true⟩, ⟨.move (.loc 2), none, (some 12), true⟩])
 ((.seq ((.seq (.ops [⟨.move (.var 2), none, (some 10), true⟩, ⟨.move (.k (.int .i64 0)), none, (some 9), true⟩])
 (.block 0 (.loop ((.seq (.ops [⟨.bin .lss .no (.var 9) (.var 10), none, (some 11), true⟩])
 ((.seq (.cond (.var 11) (.skip) (.exit 0))
 ((.seq (.block 1 (.ops [⟨.move (.var 12), none, none, true⟩, ⟨.callS ndeadline_system_step [(.loc 0)], none, none, true⟩]))
 (.ops [⟨.bin .add .no (.var 9) (.k (.int .i64 1)), none, none, true⟩, ⟨.move (.loc 0), none, (some 9), true⟩])))))))))))
 ((.seq (.ops [⟨.move (.k (.empty)), none, (some 17), true⟩])
 ((.seq ((.seq (.ops [⟨.move (.var 12), none, none, true⟩, ⟨.nilCheck (.loc 0), none, none, true⟩, ⟨.fieldAddr 2 (.loc 1), none, none, true⟩, ⟨.load none (.loc 2), none, (some 16), true⟩, ⟨.len (.loc 3), none, (some 14), true⟩, ⟨.move (.k (.int .i64 0)), none, (some 13), true⟩])
 (.block 2 (.loop ((.seq (.ops [⟨.bin .lss .no (.var 13) (.var 14), none, (some 15), true⟩])
 ((.seq (.cond (.var 15) (.skip) (.exit 2))
 ((.seq (.block 3 ((.seq (.ops [⟨.indexAddr 1 (.var 16) (.var 13), none, none, true⟩, ⟨.load none (.loc 0), none, none, true⟩, ⟨.move (.loc 1), none, (some 18), true⟩])
 (.ops [⟨.move (.var 17), none, none, true⟩, ⟨.move (.var 18), none, none, true⟩, ⟨.nilCheck (.loc 1), none, none, true⟩, ⟨.fieldAddr 2 (.loc 2), none, none, true⟩, ⟨.load none (.loc 3), none, none, true⟩, ⟨.len (.loc 4), none, none, true⟩, ⟨.buildSlice 1 [.int .i64 0] [(0, 1, (.loc 5))] 1, none, none, true⟩, ⟨.append 1 8 (.loc 0) (.loc 6), none, none, true⟩, ⟨.move (.loc 7), none, (some 17), true⟩]))))
 (.ops [⟨.bin .add .no (.var 13) (.k (.int .i64 1)), none, none, true⟩, ⟨.move (.loc 0), none, (some 13), true⟩])))))))))))
 ((.seq (.ops [⟨.move (.var 12), none, none, false⟩, ⟨.nilCheck (.loc 0), none, none, false⟩, ⟨.fieldAddr 3 (.loc 1), none, none, false⟩, ⟨.load none (.loc 2), none, none, false⟩, ⟨.move (.var 17), none, none, false⟩, ⟨.field 0 (some 2) (.var 6), none, none, false⟩, ⟨.move (.loc 3), none, (some 3), false⟩, ⟨.move (.loc 4), none, (some 4), false⟩, ⟨.upd 2 0 (.var 5) (.loc 5), none, (some 5), true⟩])
 (.ret))))))))))))))))))), none⟩
theorem v_deadline_Run {F : Nat → Option RFunc} {me ndeadline_Validate ndeadline_newSystem ndeadline_system_step : Nat} (hF : F me = some (rf_deadline_Run ndeadline_Validate ndeadline_newSystem ndeadline_system_step)) {fl : Nat} {H : Heap} {Q : AV → Heap → Prop} (capacities0 : AV) (scripts1 : AV) (ticks2 : Int)
  (h : ∀ (H3 : Heap), Dead1 H 1 H3 → Ret F fl ndeadline_Validate [capacities0, scripts1] H3 (fun v7 H6 => ∃ (r4 : Int) (r5 : Int), v7 = (.agg [(.int .i64 r4), (.int .i64 r5)]) ∧ ∀ (H8 : Heap), Dead1 H6 1 H8 → ∃ (R9 : Int → Int → Prop), (((((((r4 = 0) ∧ (((r5 = 0) ∧ (True))))) ∧ (((ticks2 < 0) ∨ (ticks2 > 60))))) → R9 3 (-20)) ∧ (¬(((((r4 = 0) ∧ (((r5 = 0) ∧ (True))))) ∧ (((ticks2 < 0) ∨ (ticks2 > 60))))) → R9 r4 r5)) ∧ (∀ (f10 : Int) (f11 : Int), R9 f10 f11 → ((¬(((f10 = 0) ∧ (((f11 = 0) ∧ (True)))))) → Q (.tuple [.empty, .empty, (.agg [(.int .i64 f10), (.int .i64 f11)])]) H8) ∧ (¬(¬(((f10 = 0) ∧ (((f11 = 0) ∧ (True)))))) → Ret F fl ndeadline_newSystem [capacities0, scripts1] H8 (fun r13 H14 => ∃ (J16 : Nat → Int → Heap → Prop) (k17 : Nat), J16 k17 0 H14 ∧ (∀ (m18 : Nat) (v19 : Int) (H21 : Heap), J16 m18 v19 H21 → ((v19 < ticks2) → Ret F fl ndeadline_system_step [r13] H21 (fun v24 H23 => ∃ (r22 : Bool), v24 = (.bool r22) ∧ ∃ m25 : Nat, m25 < m18 ∧ J16 m25 (IntKind.wrap .i64 (v19 + 1)) H23)) ∧ (¬(v19 < ticks2) → ∃ b26 o27 : Nat, r13 = .ptr b26 o27 ∧ ∃ (e28 : AV), rload H21 none b26 (o27 + 2) = some e28 ∧ ∃ len29 : Nat, lenA e28 = some len29 ∧ ∃ (J30 : Nat → Int → AV → Heap → Prop) (k31 : Nat), J30 k31 0 .empty H21 ∧ (∀ (m32 : Nat) (v33 : Int) (left35 : AV) (H37 : Heap), J30 m32 v33 left35 H37 → ((v33 < (len29 : Int)) → ∃ (e38 : AV), getA H37 1 none e28 v33 0 = some e38 ∧ ∃ b40 o41 : Nat, e38 = .ptr b40 o41 ∧ ∃ (e42 : AV), rload H37 none b40 (o41 + 2) = some e42 ∧ ∃ len43 : Nat, lenA e42 = some len43 ∧ ∀ (b44 : Nat) (H45 : Heap), NewB H37 1 [(.int .i64 (len43 : Int))] b44 H45 → ∃ (a46 : AV) (H47 : Heap), appA fl true 1 8 H45 left35 (.slice b44 0 1 (some 1)) = some (a46, H47) ∧ ∃ m48 : Nat, m48 < m32 ∧ J30 m48 (IntKind.wrap .i64 (v33 + 1)) a46 H47) ∧ (¬(v33 < (len29 : Int)) → ∃ (e49 : AV), rload H37 none b26 (o27 + 3) = some e49 ∧ Q (.tuple [e49, left35, (.agg [(.int .i64 f10), (.int .i64 f11)])]) H37))))))))) : Ret F fl me [capacities0, scripts1, (.int .i64 ticks2)] H Q := by
  refine ret_intro hF rfl ?_
  refine w_seq ?_
  refine w_run [0, 0, 1] ?_
  obtain ⟨H3, hb⟩ : ∃ H', Dead1 H 1 H' := ⟨_, ⟨rfl⟩⟩
  replace h := h H3 hb
  refine t_tomb true 1 (.agg [(.int .i64 0), (.int .i64 0)]) [(.int .i64 0), (.int .i64 0)] H3 H (by kernel_rfl) rfl hb ?_
  refine t_done [capacities0, scripts1, (.int .i64 ticks2), .empty, .empty, (.agg [(.int .i64 0), (.int .i64 0)]), .undef, .undef, .undef, .undef, .undef, .undef, .undef, .undef, .undef, .undef, .undef, .undef, .undef] H3 (by kernel_rfl) ?_
  refine then_norm ?_
  refine w_seq ?_
  refine w_run [0, 0, 1, 1, 1] ?_
  refine t_call true ndeadline_Validate [capacities0, scripts1] H3 (by kernel_rfl) h ?_
  clear h
  rintro _ H6 ⟨r4, r5, rfl, h⟩
  obtain ⟨H8, hb⟩ : ∃ H', Dead1 H6 1 H' := ⟨_, ⟨rfl⟩⟩
  replace h := h H8 hb
  refine t_tomb true 1 (.agg [(.int .i64 0), (.int .i64 0)]) [(.int .i64 0), (.int .i64 0)] H8 H6 (by kernel_rfl) rfl hb ?_
  refine t_upd true 2 0 [(.int .i64 0), (.int .i64 0)] (.agg [(.int .i64 r4), (.int .i64 r5)]) [(.int .i64 r4), (.int .i64 r5)] [(.int .i64 r4), (.int .i64 r5)] H8 (by kernel_rfl) rfl (all_c rfl (all_c rfl all_n)) ⟨rfl, Nat.le_of_ble_eq_true (by kernel_rfl), rfl⟩ ?_
  refine t_done [capacities0, scripts1, (.int .i64 ticks2), .empty, .empty, (.agg [(.int .i64 0), (.int .i64 0)]), (.agg [(.int .i64 r4), (.int .i64 r5)]), .undef, .undef, .undef, .undef, .undef, .undef, .undef, .undef, .undef, .undef, .undef, .undef] H8 (by kernel_rfl) ?_
  refine then_norm ?_
  refine w_seq ?_
  obtain ⟨R9, h, hK⟩ := h
  refine w_join (fun EI HI => ∃ (f10 : Int) (f11 : Int) (d12 : AV), EI = [capacities0, scripts1, (.int .i64 ticks2), .empty, .empty, (.agg [(.int .i64 0), (.int .i64 0)]), (.agg [(.int .i64 f10), (.int .i64 f11)]), d12, .undef, .undef, .undef, .undef, .undef, .undef, .undef, .undef, .undef, .undef, .undef] ∧ H8 = HI ∧ R9 f10 f11) ?_ ?_
  · clear hK
    refine w_seq ?_
    refine w_run [0, 1, 0, 0, 0, 0, 0, 0, 0, 0, 0] ?_
    refine t_build true [(.int .i64 0), (.int .i64 0)] [] [] [(.int .i64 0), (.int .i64 0)] H8 (by kernel_rfl) (by kernel_rfl) ?_
    refine t_done [capacities0, scripts1, (.int .i64 ticks2), .empty, .empty, (.agg [(.int .i64 0), (.int .i64 0)]), (.agg [(.int .i64 r4), (.int .i64 r5)]), (.bool ((((r4) == 0) && (((r5) == 0) && true)) && ((decide (ticks2 < 0)) || (decide (ticks2 > 60))))), .undef, .undef, .undef, .undef, .undef, .undef, .undef, .undef, .undef, .undef, .undef] H8 (by kernel_rfl) ?_
    refine then_norm ?_
    refine w_cond (t := ((((r4) == 0) && (((r5) == 0) && true)) && ((decide (ticks2 < 0)) || (decide (ticks2 > 60))))) rfl (fun hc => ?_) (fun hc => ?_)
    · replace h := h.1 ((is_and (is_and is_eq (is_and is_eq is_true)) (is_or is_dec is_dec)).t hc)
      refine w_run [1, 1] ?_
      refine t_build true [(.int .i64 0), (.int .i64 0)] [(0, 1, .loc 0), (1, 1, .loc 1)] [(.int .i64 3), (.int .i64 (-20))] [(.int .i64 3), (.int .i64 (-20))] H8 (by kernel_rfl) (fill_c (vs := [(.int .i64 3)]) (size := 1) rfl (by kernel_rfl) (by kernel_rfl) (fill_c (vs := [(.int .i64 (-20))]) (size := 1) rfl (by kernel_rfl) (by kernel_rfl) (by kernel_rfl))) ?_
      refine t_upd true 2 0 [(.int .i64 r4), (.int .i64 r5)] (.agg [(.int .i64 3), (.int .i64 (-20))]) [(.int .i64 3), (.int .i64 (-20))] [(.int .i64 3), (.int .i64 (-20))] H8 (by kernel_rfl) rfl (all_c rfl (all_c rfl all_n)) ⟨rfl, Nat.le_of_ble_eq_true (by kernel_rfl), rfl⟩ ?_
      refine t_done [capacities0, scripts1, (.int .i64 ticks2), .empty, .empty, (.agg [(.int .i64 0), (.int .i64 0)]), (.agg [(.int .i64 3), (.int .i64 (-20))]), (.bool ((((r4) == 0) && (((r5) == 0) && true)) && ((decide (ticks2 < 0)) || (decide (ticks2 > 60))))), .undef, .undef, .undef, .undef, .undef, .undef, .undef, .undef, .undef, .undef, .undef] H8 (by kernel_rfl) ?_
      refine join_norm ⟨_, _, _, rfl, rfl, h⟩
    · replace h := h.2 ((is_and (is_and is_eq (is_and is_eq is_true)) (is_or is_dec is_dec)).f hc)
      refine w_skip ?_
      refine join_norm ⟨_, _, _, rfl, rfl, h⟩
  · clear h
    rintro EI HI ⟨f10, f11, d12, rfl, rfl, hJ⟩
    have h := hK f10 f11 hJ
    clear hJ hK
    refine then_norm ?_
    refine w_seq ?_
    refine w_seq ?_
    refine w_run [0, 1, 0] ?_
    refine t_build true [(.int .i64 0), (.int .i64 0)] [] [] [(.int .i64 0), (.int .i64 0)] H8 (by kernel_rfl) (by kernel_rfl) ?_
    refine t_done [capacities0, scripts1, (.int .i64 ticks2), .empty, .empty, (.agg [(.int .i64 0), (.int .i64 0)]), (.agg [(.int .i64 f10), (.int .i64 f11)]), d12, (.bool (!(((f10) == 0) && (((f11) == 0) && true)))), .undef, .undef, .undef, .undef, .undef, .undef, .undef, .undef, .undef, .undef] H8 (by kernel_rfl) ?_
    refine then_norm ?_
    refine w_cond (t := (!(((f10) == 0) && (((f11) == 0) && true)))) rfl (fun hc => ?_) (fun hc => ?_)
    · replace h := h.1 ((is_not (is_and is_eq (is_and is_eq is_true))).t hc)
      refine w_seq ?_
      refine w_run [0, 0, 0, 1] ?_
      refine t_upd true 2 0 [(.int .i64 0), (.int .i64 0)] (.agg [(.int .i64 f10), (.int .i64 f11)]) [(.int .i64 f10), (.int .i64 f11)] [(.int .i64 f10), (.int .i64 f11)] H8 (by kernel_rfl) rfl (all_c rfl (all_c rfl all_n)) ⟨rfl, Nat.le_of_ble_eq_true (by kernel_rfl), rfl⟩ ?_
      refine t_done [capacities0, scripts1, (.int .i64 ticks2), .empty, .empty, (.agg [(.int .i64 f10), (.int .i64 f11)]), (.agg [(.int .i64 f10), (.int .i64 f11)]), d12, (.bool (!(((f10) == 0) && (((f11) == 0) && true)))), .undef, .undef, .undef, .undef, .undef, .undef, .undef, .undef, .undef, .undef] H8 (by kernel_rfl) ?_
      refine then_norm ?_
      refine w_ret ?_
      refine then_ret ?_
      exact body_ret (vs := [.empty, .empty, (.agg [(.int .i64 f10), (.int .i64 f11)])]) _ (by kernel_rfl) rfl h
    · replace h := h.2 ((is_not (is_and is_eq (is_and is_eq is_true))).f hc)
      refine w_skip ?_
      refine then_norm ?_
      refine w_seq ?_
      refine w_run [0, 0, 1, 0] ?_
      refine t_call true ndeadline_newSystem [capacities0, scripts1] H8 (by kernel_rfl) h ?_
      clear h
      rintro r13 H14 h
      refine t_done [capacities0, scripts1, (.int .i64 ticks2), .empty, .empty, (.agg [(.int .i64 0), (.int .i64 0)]), (.agg [(.int .i64 f10), (.int .i64 f11)]), d12, (.bool (!(((f10) == 0) && (((f11) == 0) && true)))), .undef, .undef, .undef, r13, .undef, .undef, .undef, .undef, .undef, .undef] H14 (by kernel_rfl) ?_
      refine then_norm ?_
      refine w_seq ?_
      refine w_seq ?_
      refine w_run [0, 0] ?_
      refine t_done [capacities0, scripts1, (.int .i64 ticks2), .empty, .empty, (.agg [(.int .i64 0), (.int .i64 0)]), (.agg [(.int .i64 f10), (.int .i64 f11)]), d12, (.bool (!(((f10) == 0) && (((f11) == 0) && true)))), (.int .i64 0), (.int .i64 ticks2), .undef, r13, .undef, .undef, .undef, .undef, .undef, .undef] H14 (by kernel_rfl) ?_
      refine then_norm ?_
      refine w_block ?_
      obtain ⟨J16, k17, h0, h⟩ := h
      refine w_loop (I := fun mI EI HI => ∃ (v19 : Int) (d20 : AV), EI = [capacities0, scripts1, (.int .i64 ticks2), .empty, .empty, (.agg [(.int .i64 0), (.int .i64 0)]), (.agg [(.int .i64 f10), (.int .i64 f11)]), d12, (.bool (!(((f10) == 0) && (((f11) == 0) && true)))), (.int .i64 v19), (.int .i64 ticks2), d20, r13, .undef, .undef, .undef, .undef, .undef, .undef] ∧ J16 mI v19 HI) ?_ k17 ⟨_, _, rfl, h0⟩
      clear h0
      rintro m18 EI H21 ⟨v19, d20, rfl, hJ⟩
      replace h := h m18 v19 H21 hJ
      clear hJ
      refine w_seq ?_
      refine w_run [0] ?_
      refine t_done [capacities0, scripts1, (.int .i64 ticks2), .empty, .empty, (.agg [(.int .i64 0), (.int .i64 0)]), (.agg [(.int .i64 f10), (.int .i64 f11)]), d12, (.bool (!(((f10) == 0) && (((f11) == 0) && true)))), (.int .i64 v19), (.int .i64 ticks2), (.bool (decide (v19 < ticks2))), r13, .undef, .undef, .undef, .undef, .undef, .undef] H21 (by kernel_rfl) ?_
      refine then_norm ?_
      refine w_seq ?_
      refine w_cond (t := (decide (v19 < ticks2))) rfl (fun hc => ?_) (fun hc => ?_)
      · replace h := h.1 (is_dec.t hc)
        refine w_skip ?_
        refine then_norm ?_
        refine w_seq ?_
        refine w_block ?_
        refine w_run [0, 1] ?_
        refine t_call true ndeadline_system_step [r13] H21 (by kernel_rfl) h ?_
        clear h
        rintro _ H23 ⟨r22, rfl, h⟩
        refine t_done [capacities0, scripts1, (.int .i64 ticks2), .empty, .empty, (.agg [(.int .i64 0), (.int .i64 0)]), (.agg [(.int .i64 f10), (.int .i64 f11)]), d12, (.bool (!(((f10) == 0) && (((f11) == 0) && true)))), (.int .i64 v19), (.int .i64 ticks2), (.bool (decide (v19 < ticks2))), r13, .undef, .undef, .undef, .undef, .undef, .undef] H23 (by kernel_rfl) ?_
        refine block_norm ?_
        refine then_norm ?_
        refine w_run [0, 0] ?_
        refine t_done [capacities0, scripts1, (.int .i64 ticks2), .empty, .empty, (.agg [(.int .i64 0), (.int .i64 0)]), (.agg [(.int .i64 f10), (.int .i64 f11)]), d12, (.bool (!(((f10) == 0) && (((f11) == 0) && true)))), (.int .i64 (IntKind.wrap .i64 (v19 + 1))), (.int .i64 ticks2), (.bool (decide (v19 < ticks2))), r13, .undef, .undef, .undef, .undef, .undef, .undef] H23 (by kernel_rfl) ?_
        obtain ⟨m', hm, h⟩ := h
        refine loop_norm ⟨m', hm, _, _, rfl, h⟩
      · replace h := h.2 (is_dec.f hc)
        refine w_exit ?_
        refine then_exit ?_
        refine loop_exit ?_
        refine block_exit ?_
        refine then_norm ?_
        refine w_seq ?_
        refine w_run [0] ?_
        refine t_done [capacities0, scripts1, (.int .i64 ticks2), .empty, .empty, (.agg [(.int .i64 0), (.int .i64 0)]), (.agg [(.int .i64 f10), (.int .i64 f11)]), d12, (.bool (!(((f10) == 0) && (((f11) == 0) && true)))), (.int .i64 v19), (.int .i64 ticks2), (.bool (decide (v19 < ticks2))), r13, .undef, .undef, .undef, .undef, .empty, .undef] H21 (by kernel_rfl) ?_
        refine then_norm ?_
        refine w_seq ?_
        refine w_seq ?_
        refine w_run [0, 1, 1, 1, 1, 0] ?_
        obtain ⟨b26, o27, rfl, h⟩ := h
        refine t_ptr true b26 o27 H21 (by kernel_rfl) ?_
        refine t_op true (.fieldAddr 2 (.loc 0)) [.ptr b26 o27] H21 (.ptr b26 (o27 + 2)) H21 (by kernel_rfl) rfl ?_
        obtain ⟨e28, hl, h⟩ := h
        refine t_load true none b26 (o27 + 2) e28 H21 (by kernel_rfl) hl ?_
        obtain ⟨len29, hl, h⟩ := h
        refine t_len true e28 len29 H21 (by kernel_rfl) hl ?_
        refine t_done [capacities0, scripts1, (.int .i64 ticks2), .empty, .empty, (.agg [(.int .i64 0), (.int .i64 0)]), (.agg [(.int .i64 f10), (.int .i64 f11)]), d12, (.bool (!(((f10) == 0) && (((f11) == 0) && true)))), (.int .i64 v19), (.int .i64 ticks2), (.bool (decide (v19 < ticks2))), (.ptr b26 o27), (.int .i64 0), (.int .i64 (len29 : Int)), .undef, e28, .empty, .undef] H21 (by kernel_rfl) ?_
        refine then_norm ?_
        refine w_block ?_
        obtain ⟨J30, k31, h0, h⟩ := h
        refine w_loop (I := fun mI EI HI => ∃ (v33 : Int) (d34 : AV) (left35 : AV) (d36 : AV), EI = [capacities0, scripts1, (.int .i64 ticks2), .empty, .empty, (.agg [(.int .i64 0), (.int .i64 0)]), (.agg [(.int .i64 f10), (.int .i64 f11)]), d12, (.bool (!(((f10) == 0) && (((f11) == 0) && true)))), (.int .i64 v19), (.int .i64 ticks2), (.bool (decide (v19 < ticks2))), (.ptr b26 o27), (.int .i64 v33), (.int .i64 (len29 : Int)), d34, e28, left35, d36] ∧ J30 mI v33 left35 HI) ?_ k31 ⟨_, _, _, _, rfl, h0⟩
        clear h0
        rintro m32 EI H37 ⟨v33, d34, left35, d36, rfl, hJ⟩
        replace h := h m32 v33 left35 H37 hJ
        clear hJ
        refine w_seq ?_
        refine w_run [0] ?_
        refine t_done [capacities0, scripts1, (.int .i64 ticks2), .empty, .empty, (.agg [(.int .i64 0), (.int .i64 0)]), (.agg [(.int .i64 f10), (.int .i64 f11)]), d12, (.bool (!(((f10) == 0) && (((f11) == 0) && true)))), (.int .i64 v19), (.int .i64 ticks2), (.bool (decide (v19 < ticks2))), (.ptr b26 o27), (.int .i64 v33), (.int .i64 (len29 : Int)), (.bool (decide (v33 < (len29 : Int)))), e28, left35, d36] H37 (by kernel_rfl) ?_
        refine then_norm ?_
        refine w_seq ?_
        refine w_cond (t := (decide (v33 < (len29 : Int)))) rfl (fun hc => ?_) (fun hc => ?_)
        · replace h := h.1 (is_dec.t hc)
          refine w_skip ?_
          refine then_norm ?_
          refine w_seq ?_
          refine w_block ?_
          refine w_seq ?_
          refine w_run [1, 1, 0] ?_
          obtain ⟨e38, hg39, h⟩ := h
          refine t_idxG true 1 e28 .i64 v33 H37 (by kernel_rfl) hg39 ?_
          refine t_loadG true none 1 e28 v33 0 e38 H37 (by kernel_rfl) hg39 ?_
          refine t_done [capacities0, scripts1, (.int .i64 ticks2), .empty, .empty, (.agg [(.int .i64 0), (.int .i64 0)]), (.agg [(.int .i64 f10), (.int .i64 f11)]), d12, (.bool (!(((f10) == 0) && (((f11) == 0) && true)))), (.int .i64 v19), (.int .i64 ticks2), (.bool (decide (v19 < ticks2))), (.ptr b26 o27), (.int .i64 v33), (.int .i64 (len29 : Int)), (.bool (decide (v33 < (len29 : Int)))), e28, left35, e38] H37 (by kernel_rfl) ?_
          refine then_norm ?_
          refine w_run [0, 0, 1, 1, 1, 1, 1, 1, 0] ?_
          obtain ⟨b40, o41, rfl, h⟩ := h
          refine t_ptr true b40 o41 H37 (by kernel_rfl) ?_
          refine t_op true (.fieldAddr 2 (.loc 0)) [.ptr b40 o41] H37 (.ptr b40 (o41 + 2)) H37 (by kernel_rfl) rfl ?_
          obtain ⟨e42, hl, h⟩ := h
          refine t_load true none b40 (o41 + 2) e42 H37 (by kernel_rfl) hl ?_
          obtain ⟨len43, hl, h⟩ := h
          refine t_len true e42 len43 H37 (by kernel_rfl) hl ?_
          obtain ⟨b44, H45, hb⟩ : ∃ b H', NewB H37 1 [(.int .i64 (len43 : Int))] b H' := ⟨_, _, rfl, rfl⟩
          replace h := h b44 H45 hb
          refine t_bs true 1 [(.int .i64 0)] [(0, 1, .loc 0)] 1 [(.int .i64 (len43 : Int))] [(.int .i64 (len43 : Int))] b44 H45 H37 (by kernel_rfl) (fill_c (vs := [(.int .i64 (len43 : Int))]) (size := 1) rfl (by kernel_rfl) (by kernel_rfl) (by kernel_rfl)) hb ?_
          obtain ⟨a46, H47, ha, h⟩ := h
          refine t_app true 1 8 left35 (.slice b44 0 1 (some 1)) a46 H47 H45 (by kernel_rfl) ha ?_
          refine t_done [capacities0, scripts1, (.int .i64 ticks2), .empty, .empty, (.agg [(.int .i64 0), (.int .i64 0)]), (.agg [(.int .i64 f10), (.int .i64 f11)]), d12, (.bool (!(((f10) == 0) && (((f11) == 0) && true)))), (.int .i64 v19), (.int .i64 ticks2), (.bool (decide (v19 < ticks2))), (.ptr b26 o27), (.int .i64 v33), (.int .i64 (len29 : Int)), (.bool (decide (v33 < (len29 : Int)))), e28, a46, (.ptr b40 o41)] H47 (by kernel_rfl) ?_
          refine block_norm ?_
          refine then_norm ?_
          refine w_run [0, 0] ?_
          refine t_done [capacities0, scripts1, (.int .i64 ticks2), .empty, .empty, (.agg [(.int .i64 0), (.int .i64 0)]), (.agg [(.int .i64 f10), (.int .i64 f11)]), d12, (.bool (!(((f10) == 0) && (((f11) == 0) && true)))), (.int .i64 v19), (.int .i64 ticks2), (.bool (decide (v19 < ticks2))), (.ptr b26 o27), (.int .i64 (IntKind.wrap .i64 (v33 + 1))), (.int .i64 (len29 : Int)), (.bool (decide (v33 < (len29 : Int)))), e28, a46, (.ptr b40 o41)] H47 (by kernel_rfl) ?_
          obtain ⟨m', hm, h⟩ := h
          refine loop_norm ⟨m', hm, _, _, _, _, rfl, h⟩
        · replace h := h.2 (is_dec.f hc)
          refine w_exit ?_
          refine then_exit ?_
          refine loop_exit ?_
          refine block_exit ?_
          refine then_norm ?_
          refine w_seq ?_
          refine w_run [0, 1, 1, 1, 0, 0, 0, 0, 1] ?_
          refine t_ptr false b26 o27 H37 (by kernel_rfl) ?_
          refine t_op false (.fieldAddr 3 (.loc 0)) [.ptr b26 o27] H37 (.ptr b26 (o27 + 3)) H37 (by kernel_rfl) rfl ?_
          obtain ⟨e49, hl, h⟩ := h
          refine t_load false none b26 (o27 + 3) e49 H37 (by kernel_rfl) hl ?_
          refine t_upd true 2 0 [(.int .i64 0), (.int .i64 0)] (.agg [(.int .i64 f10), (.int .i64 f11)]) [(.int .i64 f10), (.int .i64 f11)] [(.int .i64 f10), (.int .i64 f11)] H37 (by kernel_rfl) rfl (all_c rfl (all_c rfl all_n)) ⟨rfl, Nat.le_of_ble_eq_true (by kernel_rfl), rfl⟩ ?_
          refine t_done [capacities0, scripts1, (.int .i64 ticks2), e49, left35, (.agg [(.int .i64 f10), (.int .i64 f11)]), (.agg [(.int .i64 f10), (.int .i64 f11)]), d12, (.bool (!(((f10) == 0) && (((f11) == 0) && true)))), (.int .i64 v19), (.int .i64 ticks2), (.bool (decide (v19 < ticks2))), (.ptr b26 o27), (.int .i64 v33), (.int .i64 (len29 : Int)), (.bool (decide (v33 < (len29 : Int)))), e28, left35, d36] H37 (by kernel_rfl) ?_
          refine then_norm ?_
          refine w_ret ?_
          exact body_ret (vs := [e49, left35, (.agg [(.int .i64 f10), (.int .i64 f11)])]) _ (by kernel_rfl) rfl h

def rf_deadline_Stuck (ndeadline_Validate ndeadline_newSystem ndeadline_system_step : Nat) : RFunc := ⟨2, 15, [.var 2, .part 3 (some 2)],
 ((.seq (.ops [⟨.move (.k (.empty)), none, (some 2), true⟩, ⟨.tomb 1 (.k (.agg [.int .i64 0, .int .i64 0])), none, (some 3), true⟩])
 ((.seq (.ops [⟨.move (.var 0), none, none, true⟩, ⟨.move (.var 1), none, none, true⟩, ⟨.callS ndeadline_Validate [(.loc 0), (.loc 1)], none, none, true⟩, ⟨.tomb 1 (.k (.agg [.int .i64 0, .int .i64 0])), none, (some 4), true⟩, ⟨.upd 2 0 (.loc 3) (.loc 2), none, (some 4), true⟩])
 ((.seq ((.seq (.ops [⟨.field 0 (some 2) (.var 4), none, none, true⟩, ⟨.build [.int .i64 0, .int .i64 0] [], none, none, true⟩, ⟨.bin .neq (.agg [.int, .int]) (.loc 0) (.loc 1), none, (some 5), true⟩])
 (.cond (.var 5) ((.seq (.ops [⟨.field 0 (some 2) (.var 4), none, none, true⟩, ⟨.move (.k (.empty)), none, (some 2), false⟩, ⟨.upd 2 0 (.var 3) (.loc 0), none, (some 3), true⟩])
 (.ret))) (.skip))))
 ((.seq (.ops [⟨.move (.var 0), none, none, true⟩, ⟨.move (.var 1), none, none, true⟩, ⟨.callS ndeadline_newSystem [(.loc 0), (.loc 1)], none, none, true⟩, ⟨.move (.loc 2), none, (some 6), true⟩])
 ((.seq (.block 0 (.loop ((.seq ((.seq (.ops [⟨.move (.var 6), none, none, true⟩, ⟨.callS ndeadline_system_step [(.loc 0)], none, (some 7), true⟩])
 (.cond (.var 7) (.skip) (.exit 0))))
 (.block 1 (.skip))))))
 ((.seq (.ops [⟨.move (.k (.empty)), none, (some 14), true⟩])
 ((.seq ((.seq (.ops [⟨.move (.var 6), none, none, true⟩, ⟨.nilCheck (.loc 0), none, none, true⟩, ⟨.fieldAddr 2 (.loc 1), none, none, true⟩, ⟨.load none (.loc 2), none, (some 11), true⟩, ⟨.len (.loc 3), none, (some 9), true⟩, ⟨.move (.k (.int .i64 0)), none, (some 8), true⟩])
 (.block 2 (.loop ((.seq (.ops [⟨.bin .lss .no (.var 8) (.var 9), none, (some 10), true⟩])
 ((.seq (.cond (.var 10) (.skip) (.exit 2))
 ((.seq (.block 3 ((.seq (.ops [⟨.indexAddr 1 (.var 11) (.var 8), none, none, true⟩, ⟨.load none (.loc 0), none, none, true⟩, ⟨.move (.loc 1), none, (some 12), true⟩])
 ((.seq (.ops [⟨.move (.var 12), none, none, true⟩, ⟨.nilCheck (.loc 0), none, none, true⟩, ⟨.fieldAddr 2 (.loc 1), none, none, true⟩, ⟨.load none (.loc 2), none, none, true⟩, ⟨.len (.loc 3), none, none, true⟩, ⟨.bin .gtr .no (.loc 4) (.k (.int .i64 0)), none, (some 13), true⟩])
 (.cond (.var 13) (.ops [⟨.move (.var 14), none, none, true⟩, ⟨.move (.var 12), none, none, true⟩, ⟨.nilCheck (.loc 1), none, none, true⟩, ⟨.fieldAddr 0 (.loc 2), none, none, true⟩, ⟨.load none (.loc 3), none, none, true⟩, ⟨.buildSlice 1 [.int .i64 0] [(0, 1, (.loc 4))] 1, none, none, true⟩, ⟨.append 1 8 (.loc 0) (.loc 5), none, none, true⟩, ⟨.move (.loc 6), none, (some 14), true⟩]) (.skip)))))))
 (.ops [⟨.bin .add .no (.var 8) (.k (.int .i64 1)), none, none, true⟩, ⟨.move (.loc 0), none, (some 8), true⟩])))))))))))
 ((.seq (.ops [⟨.move (.var 14), none, none, false⟩, ⟨.field 0 (some 2) (.var 4), none, none, true⟩, ⟨.move (.loc 0), none, (some 2), false⟩, ⟨.upd 2 0 (.var 3) (.loc 1), none, (some 3), true⟩])
 (.ret))))))))))))))))), none⟩
theorem v_deadline_Stuck {F : Nat → Option RFunc} {me ndeadline_Validate ndeadline_newSystem ndeadline_system_step : Nat} (hF : F me = some (rf_deadline_Stuck ndeadline_Validate ndeadline_newSystem ndeadline_system_step)) {fl : Nat} {H : Heap} {Q : AV → Heap → Prop} (capacities0 : AV) (scripts1 : AV)
  (h : ∀ (H2 : Heap), Dead1 H 1 H2 → Ret F fl ndeadline_Validate [capacities0, scripts1] H2 (fun v6 H5 => ∃ (r3 : Int) (r4 : Int), v6 = (.agg [(.int .i64 r3), (.int .i64 r4)]) ∧ ∀ (H7 : Heap), Dead1 H5 1 H7 → ((¬(((r3 = 0) ∧ (((r4 = 0) ∧ (True)))))) → Q (.tuple [.empty, (.agg [(.int .i64 r3), (.int .i64 r4)])]) H7) ∧ (¬(¬(((r3 = 0) ∧ (((r4 = 0) ∧ (True)))))) → Ret F fl ndeadline_newSystem [capacities0, scripts1] H7 (fun r8 H9 => ∃ (J11 : Nat → Heap → Prop) (k12 : Nat), J11 k12 H9 ∧ (∀ (m13 : Nat) (H15 : Heap), J11 m13 H15 → Ret F fl ndeadline_system_step [r8] H15 (fun v18 H17 => ∃ (r16 : Bool), v18 = (.bool r16) ∧ ((r16 = true) → ∃ m19 : Nat, m19 < m13 ∧ J11 m19 H17) ∧ (¬(r16 = true) → ∃ b20 o21 : Nat, r8 = .ptr b20 o21 ∧ ∃ (e22 : AV), rload H17 none b20 (o21 + 2) = some e22 ∧ ∃ len23 : Nat, lenA e22 = some len23 ∧ ∃ (J24 : Nat → Int → AV → Heap → Prop) (k25 : Nat), J24 k25 0 .empty H17 ∧ (∀ (m26 : Nat) (v27 : Int) (out31 : AV) (H32 : Heap), J24 m26 v27 out31 H32 → ((v27 < (len23 : Int)) → ∃ (e33 : AV), getA H32 1 none e22 v27 0 = some e33 ∧ ∃ b35 o36 : Nat, e33 = .ptr b35 o36 ∧ ∃ (e37 : AV), rload H32 none b35 (o36 + 2) = some e37 ∧ ∃ len38 : Nat, lenA e37 = some len38 ∧ (((len38 : Int) > 0) → ∃ (e39 : Int), rload H32 none b35 o36 = some (.int .i64 e39) ∧ ∀ (b40 : Nat) (H41 : Heap), NewB H32 1 [(.int .i64 e39)] b40 H41 → ∃ (a42 : AV) (H43 : Heap), appA fl true 1 8 H41 out31 (.slice b40 0 1 (some 1)) = some (a42, H43) ∧ ∃ m44 : Nat, m44 < m26 ∧ J24 m44 (IntKind.wrap .i64 (v27 + 1)) a42 H43) ∧ (¬((len38 : Int) > 0) → ∃ m45 : Nat, m45 < m26 ∧ J24 m45 (IntKind.wrap .i64 (v27 + 1)) out31 H32)) ∧ (¬(v27 < (len23 : Int)) → Q (.tuple [out31, (.agg [(.int .i64 r3), (.int .i64 r4)])]) H32))))))))) : Ret F fl me [capacities0, scripts1] H Q := by
  refine ret_intro hF rfl ?_
  refine w_seq ?_
  refine w_run [0, 1] ?_
  obtain ⟨H2, hb⟩ : ∃ H', Dead1 H 1 H' := ⟨_, ⟨rfl⟩⟩
  replace h := h H2 hb
  refine t_tomb true 1 (.agg [(.int .i64 0), (.int .i64 0)]) [(.int .i64 0), (.int .i64 0)] H2 H (by kernel_rfl) rfl hb ?_
  refine t_done [capacities0, scripts1, .empty, (.agg [(.int .i64 0), (.int .i64 0)]), .undef, .undef, .undef, .undef, .undef, .undef, .undef, .undef, .undef, .undef, .undef] H2 (by kernel_rfl) ?_
  refine then_norm ?_
  refine w_seq ?_
  refine w_run [0, 0, 1, 1, 1] ?_
  refine t_call true ndeadline_Validate [capacities0, scripts1] H2 (by kernel_rfl) h ?_
  clear h
  rintro _ H5 ⟨r3, r4, rfl, h⟩
  obtain ⟨H7, hb⟩ : ∃ H', Dead1 H5 1 H' := ⟨_, ⟨rfl⟩⟩
  replace h := h H7 hb
  refine t_tomb true 1 (.agg [(.int .i64 0), (.int .i64 0)]) [(.int .i64 0), (.int .i64 0)] H7 H5 (by kernel_rfl) rfl hb ?_
  refine t_upd true 2 0 [(.int .i64 0), (.int .i64 0)] (.agg [(.int .i64 r3), (.int .i64 r4)]) [(.int .i64 r3), (.int .i64 r4)] [(.int .i64 r3), (.int .i64 r4)] H7 (by kernel_rfl) rfl (all_c rfl (all_c rfl all_n)) ⟨rfl, Nat.le_of_ble_eq_true (by kernel_rfl), rfl⟩ ?_
  refine t_done [capacities0, scripts1, .empty, (.agg [(.int .i64 0), (.int .i64 0)]), (.agg [(.int .i64 r3), (.int .i64 r4)]), .undef, .undef, .undef, .undef, .undef, .undef, .undef, .undef, .undef, .undef] H7 (by kernel_rfl) ?_
  refine then_norm ?_
  refine w_seq ?_
  refine w_seq ?_
  refine w_run [0, 1, 0] ?_
  refine t_build true [(.int .i64 0), (.int .i64 0)] [] [] [(.int .i64 0), (.int .i64 0)] H7 (by kernel_rfl) (by kernel_rfl) ?_
  refine t_done [capacities0, scripts1, .empty, (.agg [(.int .i64 0), (.int .i64 0)]), (.agg [(.int .i64 r3), (.int .i64 r4)]), (.bool (!(((r3) == 0) && (((r4) == 0) && true)))), .undef, .undef, .undef, .undef, .undef, .undef, .undef, .undef, .undef] H7 (by kernel_rfl) ?_
  refine then_norm ?_
  refine w_cond (t := (!(((r3) == 0) && (((r4) == 0) && true)))) rfl (fun hc => ?_) (fun hc => ?_)
  · replace h := h.1 ((is_not (is_and is_eq (is_and is_eq is_true))).t hc)
    refine w_seq ?_
    refine w_run [0, 0, 1] ?_
    refine t_upd true 2 0 [(.int .i64 0), (.int .i64 0)] (.agg [(.int .i64 r3), (.int .i64 r4)]) [(.int .i64 r3), (.int .i64 r4)] [(.int .i64 r3), (.int .i64 r4)] H7 (by kernel_rfl) rfl (all_c rfl (all_c rfl all_n)) ⟨rfl, Nat.le_of_ble_eq_true (by kernel_rfl), rfl⟩ ?_
    refine t_done [capacities0, scripts1, .empty, (.agg [(.int .i64 r3), (.int .i64 r4)]), (.agg [(.int .i64 r3), (.int .i64 r4)]), (.bool (!(((r3) == 0) && (((r4) == 0) && true)))), .undef, .undef, .undef, .undef, .undef, .undef, .undef, .undef, .undef] H7 (by kernel_rfl) ?_
    refine then_norm ?_
    refine w_ret ?_
    refine then_ret ?_
    exact body_ret (vs := [.empty, (.agg [(.int .i64 r3), (.int .i64 r4)])]) _ (by kernel_rfl) rfl h
  · replace h := h.2 ((is_not (is_and is_eq (is_and is_eq is_true))).f hc)
    refine w_skip ?_
    refine then_norm ?_
    refine w_seq ?_
    refine w_run [0, 0, 1, 0] ?_
    refine t_call true ndeadline_newSystem [capacities0, scripts1] H7 (by kernel_rfl) h ?_
    clear h
    rintro r8 H9 h
    refine t_done [capacities0, scripts1, .empty, (.agg [(.int .i64 0), (.int .i64 0)]), (.agg [(.int .i64 r3), (.int .i64 r4)]), (.bool (!(((r3) == 0) && (((r4) == 0) && true)))), r8, .undef, .undef, .undef, .undef, .undef, .undef, .undef, .undef] H9 (by kernel_rfl) ?_
    refine then_norm ?_
    refine w_seq ?_
    refine w_block ?_
    obtain ⟨J11, k12, h0, h⟩ := h
    refine w_loop (I := fun mI EI HI => ∃ (d14 : AV), EI = [capacities0, scripts1, .empty, (.agg [(.int .i64 0), (.int .i64 0)]), (.agg [(.int .i64 r3), (.int .i64 r4)]), (.bool (!(((r3) == 0) && (((r4) == 0) && true)))), r8, d14, .undef, .undef, .undef, .undef, .undef, .undef, .undef] ∧ J11 mI  HI) ?_ k12 ⟨_, rfl, h0⟩
    clear h0
    rintro m13 EI H15 ⟨d14, rfl, hJ⟩
    replace h := h m13  H15 hJ
    clear hJ
    refine w_seq ?_
    refine w_seq ?_
    refine w_run [0, 1] ?_
    refine t_call true ndeadline_system_step [r8] H15 (by kernel_rfl) h ?_
    clear h
    rintro _ H17 ⟨r16, rfl, h⟩
    refine t_done [capacities0, scripts1, .empty, (.agg [(.int .i64 0), (.int .i64 0)]), (.agg [(.int .i64 r3), (.int .i64 r4)]), (.bool (!(((r3) == 0) && (((r4) == 0) && true)))), r8, (.bool r16), .undef, .undef, .undef, .undef, .undef, .undef, .undef] H17 (by kernel_rfl) ?_
    refine then_norm ?_
    refine w_cond (t := r16) rfl (fun hc => ?_) (fun hc => ?_)
    · replace h := h.1 (is_raw.t hc)
      refine w_skip ?_
      refine then_norm ?_
      refine w_block ?_
      refine w_skip ?_
      refine block_norm ?_
      obtain ⟨m', hm, h⟩ := h
      refine loop_norm ⟨m', hm, _, rfl, h⟩
    · replace h := h.2 (is_raw.f hc)
      refine w_exit ?_
      refine then_exit ?_
      refine loop_exit ?_
      refine block_exit ?_
      refine then_norm ?_
      refine w_seq ?_
      refine w_run [0] ?_
      refine t_done [capacities0, scripts1, .empty, (.agg [(.int .i64 0), (.int .i64 0)]), (.agg [(.int .i64 r3), (.int .i64 r4)]), (.bool (!(((r3) == 0) && (((r4) == 0) && true)))), r8, (.bool r16), .undef, .undef, .undef, .undef, .undef, .undef, .empty] H17 (by kernel_rfl) ?_
      refine then_norm ?_
      refine w_seq ?_
      refine w_seq ?_
      refine w_run [0, 1, 1, 1, 1, 0] ?_
      obtain ⟨b20, o21, rfl, h⟩ := h
      refine t_ptr true b20 o21 H17 (by kernel_rfl) ?_
      refine t_op true (.fieldAddr 2 (.loc 0)) [.ptr b20 o21] H17 (.ptr b20 (o21 + 2)) H17 (by kernel_rfl) rfl ?_
      obtain ⟨e22, hl, h⟩ := h
      refine t_load true none b20 (o21 + 2) e22 H17 (by kernel_rfl) hl ?_
      obtain ⟨len23, hl, h⟩ := h
      refine t_len true e22 len23 H17 (by kernel_rfl) hl ?_
      refine t_done [capacities0, scripts1, .empty, (.agg [(.int .i64 0), (.int .i64 0)]), (.agg [(.int .i64 r3), (.int .i64 r4)]), (.bool (!(((r3) == 0) && (((r4) == 0) && true)))), (.ptr b20 o21), (.bool r16), (.int .i64 0), (.int .i64 (len23 : Int)), .undef, e22, .undef, .undef, .empty] H17 (by kernel_rfl) ?_
      refine then_norm ?_
      refine w_block ?_
      obtain ⟨J24, k25, h0, h⟩ := h
      refine w_loop (I := fun mI EI HI => ∃ (v27 : Int) (d28 : AV) (d29 : AV) (d30 : AV) (out31 : AV), EI = [capacities0, scripts1, .empty, (.agg [(.int .i64 0), (.int .i64 0)]), (.agg [(.int .i64 r3), (.int .i64 r4)]), (.bool (!(((r3) == 0) && (((r4) == 0) && true)))), (.ptr b20 o21), (.bool r16), (.int .i64 v27), (.int .i64 (len23 : Int)), d28, e22, d29, d30, out31] ∧ J24 mI v27 out31 HI) ?_ k25 ⟨_, _, _, _, _, rfl, h0⟩
      clear h0
      rintro m26 EI H32 ⟨v27, d28, d29, d30, out31, rfl, hJ⟩
      replace h := h m26 v27 out31 H32 hJ
      clear hJ
      refine w_seq ?_
      refine w_run [0] ?_
      refine t_done [capacities0, scripts1, .empty, (.agg [(.int .i64 0), (.int .i64 0)]), (.agg [(.int .i64 r3), (.int .i64 r4)]), (.bool (!(((r3) == 0) && (((r4) == 0) && true)))), (.ptr b20 o21), (.bool r16), (.int .i64 v27), (.int .i64 (len23 : Int)), (.bool (decide (v27 < (len23 : Int)))), e22, d29, d30, out31] H32 (by kernel_rfl) ?_
      refine then_norm ?_
      refine w_seq ?_
      refine w_cond (t := (decide (v27 < (len23 : Int)))) rfl (fun hc => ?_) (fun hc => ?_)
      · replace h := h.1 (is_dec.t hc)
        refine w_skip ?_
        refine then_norm ?_
        refine w_seq ?_
        refine w_block ?_
        refine w_seq ?_
        refine w_run [1, 1, 0] ?_
        obtain ⟨e33, hg34, h⟩ := h
        refine t_idxG true 1 e22 .i64 v27 H32 (by kernel_rfl) hg34 ?_
        refine t_loadG true none 1 e22 v27 0 e33 H32 (by kernel_rfl) hg34 ?_
        refine t_done [capacities0, scripts1, .empty, (.agg [(.int .i64 0), (.int .i64 0)]), (.agg [(.int .i64 r3), (.int .i64 r4)]), (.bool (!(((r3) == 0) && (((r4) == 0) && true)))), (.ptr b20 o21), (.bool r16), (.int .i64 v27), (.int .i64 (len23 : Int)), (.bool (decide (v27 < (len23 : Int)))), e22, e33, d30, out31] H32 (by kernel_rfl) ?_
        refine then_norm ?_
        refine w_seq ?_
        refine w_run [0, 1, 1, 1, 1, 0] ?_
        obtain ⟨b35, o36, rfl, h⟩ := h
        refine t_ptr true b35 o36 H32 (by kernel_rfl) ?_
        refine t_op true (.fieldAddr 2 (.loc 0)) [.ptr b35 o36] H32 (.ptr b35 (o36 + 2)) H32 (by kernel_rfl) rfl ?_
        obtain ⟨e37, hl, h⟩ := h
        refine t_load true none b35 (o36 + 2) e37 H32 (by kernel_rfl) hl ?_
        obtain ⟨len38, hl, h⟩ := h
        refine t_len true e37 len38 H32 (by kernel_rfl) hl ?_
        refine t_done [capacities0, scripts1, .empty, (.agg [(.int .i64 0), (.int .i64 0)]), (.agg [(.int .i64 r3), (.int .i64 r4)]), (.bool (!(((r3) == 0) && (((r4) == 0) && true)))), (.ptr b20 o21), (.bool r16), (.int .i64 v27), (.int .i64 (len23 : Int)), (.bool (decide (v27 < (len23 : Int)))), e22, (.ptr b35 o36), (.bool (decide ((len38 : Int) > 0))), out31] H32 (by kernel_rfl) ?_
        refine then_norm ?_
        refine w_cond (t := (decide ((len38 : Int) > 0))) rfl (fun hc => ?_) (fun hc => ?_)
        · replace h := h.1 (is_dec.t hc)
          refine w_run [0, 0, 1, 1, 1, 1, 1, 0] ?_
          refine t_ptr true b35 o36 H32 (by kernel_rfl) ?_
          refine t_op true (.fieldAddr 0 (.loc 0)) [.ptr b35 o36] H32 (.ptr b35 o36) H32 (by kernel_rfl) rfl ?_
          obtain ⟨e39, hl, h⟩ := h
          refine t_load true none b35 o36 (.int .i64 e39) H32 (by kernel_rfl) hl ?_
          obtain ⟨b40, H41, hb⟩ : ∃ b H', NewB H32 1 [(.int .i64 e39)] b H' := ⟨_, _, rfl, rfl⟩
          replace h := h b40 H41 hb
          refine t_bs true 1 [(.int .i64 0)] [(0, 1, .loc 0)] 1 [(.int .i64 e39)] [(.int .i64 e39)] b40 H41 H32 (by kernel_rfl) (fill_c (vs := [(.int .i64 e39)]) (size := 1) rfl (by kernel_rfl) (by kernel_rfl) (by kernel_rfl)) hb ?_
          obtain ⟨a42, H43, ha, h⟩ := h
          refine t_app true 1 8 out31 (.slice b40 0 1 (some 1)) a42 H43 H41 (by kernel_rfl) ha ?_
          refine t_done [capacities0, scripts1, .empty, (.agg [(.int .i64 0), (.int .i64 0)]), (.agg [(.int .i64 r3), (.int .i64 r4)]), (.bool (!(((r3) == 0) && (((r4) == 0) && true)))), (.ptr b20 o21), (.bool r16), (.int .i64 v27), (.int .i64 (len23 : Int)), (.bool (decide (v27 < (len23 : Int)))), e22, (.ptr b35 o36), (.bool (decide ((len38 : Int) > 0))), a42] H43 (by kernel_rfl) ?_
          refine block_norm ?_
          refine then_norm ?_
          refine w_run [0, 0] ?_
          refine t_done [capacities0, scripts1, .empty, (.agg [(.int .i64 0), (.int .i64 0)]), (.agg [(.int .i64 r3), (.int .i64 r4)]), (.bool (!(((r3) == 0) && (((r4) == 0) && true)))), (.ptr b20 o21), (.bool r16), (.int .i64 (IntKind.wrap .i64 (v27 + 1))), (.int .i64 (len23 : Int)), (.bool (decide (v27 < (len23 : Int)))), e22, (.ptr b35 o36), (.bool (decide ((len38 : Int) > 0))), a42] H43 (by kernel_rfl) ?_
          obtain ⟨m', hm, h⟩ := h
          refine loop_norm ⟨m', hm, _, _, _, _, _, rfl, h⟩
        · replace h := h.2 (is_dec.f hc)
          refine w_skip ?_
          refine block_norm ?_
          refine then_norm ?_
          refine w_run [0, 0] ?_
          refine t_done [capacities0, scripts1, .empty, (.agg [(.int .i64 0), (.int .i64 0)]), (.agg [(.int .i64 r3), (.int .i64 r4)]), (.bool (!(((r3) == 0) && (((r4) == 0) && true)))), (.ptr b20 o21), (.bool r16), (.int .i64 (IntKind.wrap .i64 (v27 + 1))), (.int .i64 (len23 : Int)), (.bool (decide (v27 < (len23 : Int)))), e22, (.ptr b35 o36), (.bool (decide ((len38 : Int) > 0))), out31] H32 (by kernel_rfl) ?_
          obtain ⟨m', hm, h⟩ := h
          refine loop_norm ⟨m', hm, _, _, _, _, _, rfl, h⟩
      · replace h := h.2 (is_dec.f hc)
        refine w_exit ?_
        refine then_exit ?_
        refine loop_exit ?_
        refine block_exit ?_
        refine then_norm ?_
        refine w_seq ?_
        refine w_run [0, 0, 0, 1] ?_
        refine t_upd true 2 0 [(.int .i64 0), (.int .i64 0)] (.agg [(.int .i64 r3), (.int .i64 r4)]) [(.int .i64 r3), (.int .i64 r4)] [(.int .i64 r3), (.int .i64 r4)] H32 (by kernel_rfl) rfl (all_c rfl (all_c rfl all_n)) ⟨rfl, Nat.le_of_ble_eq_true (by kernel_rfl), rfl⟩ ?_
        refine t_done [capacities0, scripts1, out31, (.agg [(.int .i64 r3), (.int .i64 r4)]), (.agg [(.int .i64 r3), (.int .i64 r4)]), (.bool (!(((r3) == 0) && (((r4) == 0) && true)))), (.ptr b20 o21), (.bool r16), (.int .i64 v27), (.int .i64 (len23 : Int)), (.bool (decide (v27 < (len23 : Int)))), e22, d29, d30, out31] H32 (by kernel_rfl) ?_
        refine then_norm ?_
        refine w_ret ?_
        exact body_ret (vs := [out31, (.agg [(.int .i64 r3), (.int .i64 r4)])]) _ (by kernel_rfl) rfl h

end Go.RM

