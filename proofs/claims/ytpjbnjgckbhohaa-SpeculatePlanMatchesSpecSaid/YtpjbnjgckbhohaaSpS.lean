import Derived.Test.YtpjbnjgckbhohaaRmWp
/-
  Functions of the program as the abstract machine runs them, and what must be shown of a run: printed by RmPrint.
-/
namespace Go.RM
set_option linter.unusedVariables false
set_option maxRecDepth 4000
def rf_slices_SortStableFunc__speculate_planned_speculate_planned (nslices_stableCmpFunc_speculate_planned : Nat) : RFunc := ⟨2, 2, [],
 (.ops [⟨.move (.var 0), none, none, true⟩, ⟨.move (.var 0), none, none, true⟩, ⟨.len (.loc 1), none, none, true⟩, ⟨.move (.var 1), none, none, true⟩, ⟨.callS nslices_stableCmpFunc_speculate_planned [(.loc 0), (.loc 2), (.loc 3)], none, none, true⟩]), none⟩
theorem v_slices_SortStableFunc__speculate_planned_speculate_planned {F : Nat → Option RFunc} {me nslices_stableCmpFunc_speculate_planned : Nat} (hF : F me = some (rf_slices_SortStableFunc__speculate_planned_speculate_planned nslices_stableCmpFunc_speculate_planned)) {fl : Nat} {H : Heap} {Q : AV → Heap → Prop} (x0 : AV) (cmpg1 : Nat) (cmpc2 : List AV)
  (h : ∃ len3 : Nat, lenA x0 = some len3 ∧ Ret F fl nslices_stableCmpFunc_speculate_planned [x0, (.int .i64 (len3 : Int)), (.func cmpg1 cmpc2)] H (fun v5 H4 => v5 = .undef ∧ Q .undef H4)) : Ret F fl me [x0, (.func cmpg1 cmpc2)] H Q := by
  refine ret_intro hF rfl ?_
  refine w_run [0, 0, 1, 0, 1] ?_
  obtain ⟨len3, hl, h⟩ := h
  refine t_len true x0 len3 H (by kernel_rfl) hl ?_
  refine t_call true nslices_stableCmpFunc_speculate_planned [x0, (.int .i64 (len3 : Int)), (.func cmpg1 cmpc2)] H (by kernel_rfl) h ?_
  clear h
  rintro _ H4 ⟨rfl, h⟩
  refine t_done [x0, (.func cmpg1 cmpc2)] H4 (by kernel_rfl) ?_
  exact body_norm (vs := []) _ (by kernel_rfl) rfl h

def rf_slices_stableCmpFunc_speculate_planned (nslices_insertionSortCmpFunc_speculate_planned nslices_symMergeCmpFunc_speculate_planned : Nat) : RFunc := ⟨3, 11, [],
 ((.seq (.ops [⟨.move (.k (.int .i64 20)), none, (some 3), true⟩])
 ((.seq (.ops [⟨.move (.var 3), none, none, true⟩, ⟨.move (.k (.int .i64 0)), none, (some 6), true⟩, ⟨.move (.loc 0), none, (some 4), true⟩])
 ((.seq (.block 0 (.loop ((.seq ((.seq (.ops [⟨.move (.var 4), none, none, true⟩, ⟨.move (.var 1), none, none, true⟩, ⟨.bin .leq .no (.loc 0) (.loc 1), none, (some 5), true⟩])
 (.cond (.var 5) (.skip) (.exit 0))))
 (.block 1 ((.seq (.ops [⟨.move (.var 0), none, none, true⟩, ⟨.move (.var 6), none, none, true⟩, ⟨.move (.var 4), none, none, true⟩, ⟨.move (.var 2), none, none, true⟩, ⟨.callS nslices_insertionSortCmpFunc_speculate_planned [(.loc 0), (.loc 1), (.loc 2), (.loc 3)], none, none, true⟩])
 ((.seq (.ops [⟨.move (.var 4), none, none, true⟩, ⟨.move (.loc 0), none, (some 6), true⟩])
 (.ops [⟨.move (.var 4), none, none, true⟩, ⟨.move (.var 3), none, none, true⟩, ⟨.bin .add .no (.loc 0) (.loc 1), none, none, true⟩, ⟨.move (.loc 2), none, (some 4), true⟩]))))))))))
 ((.seq (.ops [⟨.move (.var 0), none, none, true⟩, ⟨.move (.var 6), none, none, true⟩, ⟨.move (.var 1), none, none, true⟩, ⟨.move (.var 2), none, none, true⟩, ⟨.callS nslices_insertionSortCmpFunc_speculate_planned [(.loc 0), (.loc 1), (.loc 2), (.loc 3)], none, none, true⟩])
 (.block 2 (.loop ((.seq ((.seq (.ops [⟨.move (.var 3), none, none, true⟩, ⟨.move (.var 1), none, none, true⟩, ⟨.bin .lss .no (.loc 0) (.loc 1), none, (some 7), true⟩])
 (.cond (.var 7) (.skip) (.exit 2))))
 (.block 3 ((.seq (.ops [⟨.move (.var 3), none, none, true⟩, ⟨.bin .mul .no (.k (.int .i64 2)) (.loc 0), none, none, true⟩, ⟨.move (.k (.int .i64 0)), none, (some 6), true⟩, ⟨.move (.loc 1), none, (some 4), true⟩])
 ((.seq (.block 4 (.loop ((.seq ((.seq (.ops [⟨.move (.var 4), none, none, true⟩, ⟨.move (.var 1), none, none, true⟩, ⟨.bin .leq .no (.loc 0) (.loc 1), none, (some 8), true⟩])
 (.cond (.var 8) (.skip) (.exit 4))))
 (.block 5 ((.seq (.ops [⟨.move (.var 0), none, none, true⟩, ⟨.move (.var 6), none, none, true⟩, ⟨.move (.var 6), none, none, true⟩, ⟨.move (.var 3), none, none, true⟩, ⟨.bin .add .no (.loc 2) (.loc 3), none, none, true⟩, ⟨.move (.var 4), none, none, true⟩, ⟨.move (.var 2), none, none, true⟩, ⟨.callS nslices_symMergeCmpFunc_speculate_planned [(.loc 0), (.loc 1), (.loc 4), (.loc 5), (.loc 6)], none, none, true⟩])
 ((.seq (.ops [⟨.move (.var 4), none, none, true⟩, ⟨.move (.loc 0), none, (some 6), true⟩])
 (.ops [⟨.move (.var 4), none, none, true⟩, ⟨.move (.var 3), none, none, true⟩, ⟨.bin .mul .no (.k (.int .i64 2)) (.loc 1), none, none, true⟩, ⟨.bin .add .no (.loc 0) (.loc 2), none, none, true⟩, ⟨.move (.loc 3), none, (some 4), true⟩]))))))))))
 ((.seq ((.seq (.ops [⟨.move (.var 6), none, none, true⟩, ⟨.move (.var 3), none, none, true⟩, ⟨.bin .add .no (.loc 0) (.loc 1), none, none, true⟩, ⟨.move (.loc 2), none, (some 9), true⟩])
 ((.seq (.ops [⟨.move (.var 9), none, none, true⟩, ⟨.move (.var 1), none, none, true⟩, ⟨.bin .lss .no (.loc 0) (.loc 1), none, (some 10), true⟩])
 (.cond (.var 10) (.ops [⟨.move (.var 0), none, none, true⟩, ⟨.move (.var 6), none, none, true⟩, ⟨.move (.var 9), none, none, true⟩, ⟨.move (.var 1), none, none, true⟩, ⟨.move (.var 2), none, none, true⟩, ⟨.callS nslices_symMergeCmpFunc_speculate_planned [(.loc 0), (.loc 1), (.loc 2), (.loc 3), (.loc 4)], none, none, true⟩]) (.skip))))))
 (.ops [⟨.move (.var 3), none, none, true⟩, ⟨.bin .mul .no (.loc 0) (.k (.int .i64 2)), none, none, true⟩, ⟨.move (.loc 1), none, (some 3), true⟩])))))))))))))))))))), none⟩
theorem v_slices_stableCmpFunc_speculate_planned {F : Nat → Option RFunc} {me nslices_insertionSortCmpFunc_speculate_planned nslices_symMergeCmpFunc_speculate_planned : Nat} (hF : F me = some (rf_slices_stableCmpFunc_speculate_planned nslices_insertionSortCmpFunc_speculate_planned nslices_symMergeCmpFunc_speculate_planned)) {fl : Nat} {H : Heap} {Q : AV → Heap → Prop} (data0 : AV) (n1 : Int) (cmpg2 : Nat) (cmpc3 : List AV)
  (h : ∃ (J4 : Nat → Int → Int → Heap → Prop) (k5 : Nat), J4 k5 20 0 H ∧ (∀ (m6 : Nat) (b7 : Int) (a9 : Int) (H10 : Heap), J4 m6 b7 a9 H10 → ((b7 ≤ n1) → Ret F fl nslices_insertionSortCmpFunc_speculate_planned [data0, (.int .i64 a9), (.int .i64 b7), (.func cmpg2 cmpc3)] H10 (fun v12 H11 => v12 = .undef ∧ ∃ m13 : Nat, m13 < m6 ∧ J4 m13 (IntKind.wrap .i64 (b7 + 20)) b7 H11)) ∧ (¬(b7 ≤ n1) → Ret F fl nslices_insertionSortCmpFunc_speculate_planned [data0, (.int .i64 a9), (.int .i64 n1), (.func cmpg2 cmpc3)] H10 (fun v15 H14 => v15 = .undef ∧ ∃ (J16 : Nat → Int → Heap → Prop) (k17 : Nat), J16 k17 20 H14 ∧ (∀ (m18 : Nat) (blockSize19 : Int) (H26 : Heap), J16 m18 blockSize19 H26 → ((blockSize19 < n1) → ∃ (J27 : Nat → Int → Int → Heap → Prop) (k28 : Nat), J27 k28 (IntKind.wrap .i64 (2 * blockSize19)) 0 H26 ∧ (∀ (m29 : Nat) (b30 : Int) (a31 : Int) (H33 : Heap), J27 m29 b30 a31 H33 → ((b30 ≤ n1) → Ret F fl nslices_symMergeCmpFunc_speculate_planned [data0, (.int .i64 a31), (.int .i64 (IntKind.wrap .i64 (a31 + blockSize19))), (.int .i64 b30), (.func cmpg2 cmpc3)] H33 (fun v35 H34 => v35 = .undef ∧ ∃ m36 : Nat, m36 < m29 ∧ J27 m36 (IntKind.wrap .i64 (b30 + (IntKind.wrap .i64 (2 * blockSize19)))) b30 H34)) ∧ (¬(b30 ≤ n1) → (((IntKind.wrap .i64 (a31 + blockSize19)) < n1) → Ret F fl nslices_symMergeCmpFunc_speculate_planned [data0, (.int .i64 a31), (.int .i64 (IntKind.wrap .i64 (a31 + blockSize19))), (.int .i64 n1), (.func cmpg2 cmpc3)] H33 (fun v38 H37 => v38 = .undef ∧ ∃ m39 : Nat, m39 < m18 ∧ J16 m39 (IntKind.wrap .i64 (blockSize19 * 2)) H37)) ∧ (¬((IntKind.wrap .i64 (a31 + blockSize19)) < n1) → ∃ m40 : Nat, m40 < m18 ∧ J16 m40 (IntKind.wrap .i64 (blockSize19 * 2)) H33)))) ∧ (¬(blockSize19 < n1) → Q .undef H26)))))) : Ret F fl me [data0, (.int .i64 n1), (.func cmpg2 cmpc3)] H Q := by
  refine ret_intro hF rfl ?_
  refine w_seq ?_
  refine w_run [0] ?_
  refine t_done [data0, (.int .i64 n1), (.func cmpg2 cmpc3), (.int .i64 20), .undef, .undef, .undef, .undef, .undef, .undef, .undef] H (by kernel_rfl) ?_
  refine then_norm ?_
  refine w_seq ?_
  refine w_run [0, 0, 0] ?_
  refine t_done [data0, (.int .i64 n1), (.func cmpg2 cmpc3), (.int .i64 20), (.int .i64 20), .undef, (.int .i64 0), .undef, .undef, .undef, .undef] H (by kernel_rfl) ?_
  refine then_norm ?_
  refine w_seq ?_
  refine w_block ?_
  obtain ⟨J4, k5, h0, h⟩ := h
  refine w_loop (I := fun mI EI HI => ∃ (b7 : Int) (d8 : AV) (a9 : Int), EI = [data0, (.int .i64 n1), (.func cmpg2 cmpc3), (.int .i64 20), (.int .i64 b7), d8, (.int .i64 a9), .undef, .undef, .undef, .undef] ∧ J4 mI b7 a9 HI) ?_ k5 ⟨_, _, _, rfl, h0⟩
  clear h0
  rintro m6 EI H10 ⟨b7, d8, a9, rfl, hJ⟩
  replace h := h m6 b7 a9 H10 hJ
  clear hJ
  refine w_seq ?_
  refine w_seq ?_
  refine w_run [0, 0, 0] ?_
  refine t_done [data0, (.int .i64 n1), (.func cmpg2 cmpc3), (.int .i64 20), (.int .i64 b7), (.bool (decide (b7 ≤ n1))), (.int .i64 a9), .undef, .undef, .undef, .undef] H10 (by kernel_rfl) ?_
  refine then_norm ?_
  refine w_cond (t := (decide (b7 ≤ n1))) rfl (fun hc => ?_) (fun hc => ?_)
  · replace h := h.1 (is_dec.t hc)
    refine w_skip ?_
    refine then_norm ?_
    refine w_block ?_
    refine w_seq ?_
    refine w_run [0, 0, 0, 0, 1] ?_
    refine t_call true nslices_insertionSortCmpFunc_speculate_planned [data0, (.int .i64 a9), (.int .i64 b7), (.func cmpg2 cmpc3)] H10 (by kernel_rfl) h ?_
    clear h
    rintro _ H11 ⟨rfl, h⟩
    refine t_done [data0, (.int .i64 n1), (.func cmpg2 cmpc3), (.int .i64 20), (.int .i64 b7), (.bool (decide (b7 ≤ n1))), (.int .i64 a9), .undef, .undef, .undef, .undef] H11 (by kernel_rfl) ?_
    refine then_norm ?_
    refine w_seq ?_
    refine w_run [0, 0] ?_
    refine t_done [data0, (.int .i64 n1), (.func cmpg2 cmpc3), (.int .i64 20), (.int .i64 b7), (.bool (decide (b7 ≤ n1))), (.int .i64 b7), .undef, .undef, .undef, .undef] H11 (by kernel_rfl) ?_
    refine then_norm ?_
    refine w_run [0, 0, 0, 0] ?_
    refine t_done [data0, (.int .i64 n1), (.func cmpg2 cmpc3), (.int .i64 20), (.int .i64 (IntKind.wrap .i64 (b7 + 20))), (.bool (decide (b7 ≤ n1))), (.int .i64 b7), .undef, .undef, .undef, .undef] H11 (by kernel_rfl) ?_
    refine block_norm ?_
    obtain ⟨m', hm, h⟩ := h
    refine loop_norm ⟨m', hm, _, _, _, rfl, h⟩
  · replace h := h.2 (is_dec.f hc)
    refine w_exit ?_
    refine then_exit ?_
    refine loop_exit ?_
    refine block_exit ?_
    refine then_norm ?_
    refine w_seq ?_
    refine w_run [0, 0, 0, 0, 1] ?_
    refine t_call true nslices_insertionSortCmpFunc_speculate_planned [data0, (.int .i64 a9), (.int .i64 n1), (.func cmpg2 cmpc3)] H10 (by kernel_rfl) h ?_
    clear h
    rintro _ H14 ⟨rfl, h⟩
    refine t_done [data0, (.int .i64 n1), (.func cmpg2 cmpc3), (.int .i64 20), (.int .i64 b7), (.bool (decide (b7 ≤ n1))), (.int .i64 a9), .undef, .undef, .undef, .undef] H14 (by kernel_rfl) ?_
    refine then_norm ?_
    refine w_block ?_
    obtain ⟨J16, k17, h0, h⟩ := h
    refine w_loop (I := fun mI EI HI => ∃ (blockSize19 : Int) (d20 : AV) (d21 : AV) (d22 : AV) (d23 : AV) (d24 : AV) (d25 : AV), EI = [data0, (.int .i64 n1), (.func cmpg2 cmpc3), (.int .i64 blockSize19), d20, (.bool (decide (b7 ≤ n1))), d21, d22, d23, d24, d25] ∧ J16 mI blockSize19 HI) ?_ k17 ⟨_, _, _, _, _, _, _, rfl, h0⟩
    clear h0
    rintro m18 EI H26 ⟨blockSize19, d20, d21, d22, d23, d24, d25, rfl, hJ⟩
    replace h := h m18 blockSize19 H26 hJ
    clear hJ
    refine w_seq ?_
    refine w_seq ?_
    refine w_run [0, 0, 0] ?_
    refine t_done [data0, (.int .i64 n1), (.func cmpg2 cmpc3), (.int .i64 blockSize19), d20, (.bool (decide (b7 ≤ n1))), d21, (.bool (decide (blockSize19 < n1))), d23, d24, d25] H26 (by kernel_rfl) ?_
    refine then_norm ?_
    refine w_cond (t := (decide (blockSize19 < n1))) rfl (fun hc => ?_) (fun hc => ?_)
    · replace h := h.1 (is_dec.t hc)
      refine w_skip ?_
      refine then_norm ?_
      refine w_block ?_
      refine w_seq ?_
      refine w_run [0, 0, 0, 0] ?_
      refine t_done [data0, (.int .i64 n1), (.func cmpg2 cmpc3), (.int .i64 blockSize19), (.int .i64 (IntKind.wrap .i64 (2 * blockSize19))), (.bool (decide (b7 ≤ n1))), (.int .i64 0), (.bool (decide (blockSize19 < n1))), d23, d24, d25] H26 (by kernel_rfl) ?_
      refine then_norm ?_
      refine w_seq ?_
      refine w_block ?_
      obtain ⟨J27, k28, h0, h⟩ := h
      refine w_loop (I := fun mI EI HI => ∃ (b30 : Int) (a31 : Int) (d32 : AV), EI = [data0, (.int .i64 n1), (.func cmpg2 cmpc3), (.int .i64 blockSize19), (.int .i64 b30), (.bool (decide (b7 ≤ n1))), (.int .i64 a31), (.bool (decide (blockSize19 < n1))), d32, d24, d25] ∧ J27 mI b30 a31 HI) ?_ k28 ⟨_, _, _, rfl, h0⟩
      clear h0
      rintro m29 EI H33 ⟨b30, a31, d32, rfl, hJ⟩
      replace h := h m29 b30 a31 H33 hJ
      clear hJ
      refine w_seq ?_
      refine w_seq ?_
      refine w_run [0, 0, 0] ?_
      refine t_done [data0, (.int .i64 n1), (.func cmpg2 cmpc3), (.int .i64 blockSize19), (.int .i64 b30), (.bool (decide (b7 ≤ n1))), (.int .i64 a31), (.bool (decide (blockSize19 < n1))), (.bool (decide (b30 ≤ n1))), d24, d25] H33 (by kernel_rfl) ?_
      refine then_norm ?_
      refine w_cond (t := (decide (b30 ≤ n1))) rfl (fun hc => ?_) (fun hc => ?_)
      · replace h := h.1 (is_dec.t hc)
        refine w_skip ?_
        refine then_norm ?_
        refine w_block ?_
        refine w_seq ?_
        refine w_run [0, 0, 0, 0, 0, 0, 0, 1] ?_
        refine t_call true nslices_symMergeCmpFunc_speculate_planned [data0, (.int .i64 a31), (.int .i64 (IntKind.wrap .i64 (a31 + blockSize19))), (.int .i64 b30), (.func cmpg2 cmpc3)] H33 (by kernel_rfl) h ?_
        clear h
        rintro _ H34 ⟨rfl, h⟩
        refine t_done [data0, (.int .i64 n1), (.func cmpg2 cmpc3), (.int .i64 blockSize19), (.int .i64 b30), (.bool (decide (b7 ≤ n1))), (.int .i64 a31), (.bool (decide (blockSize19 < n1))), (.bool (decide (b30 ≤ n1))), d24, d25] H34 (by kernel_rfl) ?_
        refine then_norm ?_
        refine w_seq ?_
        refine w_run [0, 0] ?_
        refine t_done [data0, (.int .i64 n1), (.func cmpg2 cmpc3), (.int .i64 blockSize19), (.int .i64 b30), (.bool (decide (b7 ≤ n1))), (.int .i64 b30), (.bool (decide (blockSize19 < n1))), (.bool (decide (b30 ≤ n1))), d24, d25] H34 (by kernel_rfl) ?_
        refine then_norm ?_
        refine w_run [0, 0, 0, 0, 0] ?_
        refine t_done [data0, (.int .i64 n1), (.func cmpg2 cmpc3), (.int .i64 blockSize19), (.int .i64 (IntKind.wrap .i64 (b30 + (IntKind.wrap .i64 (2 * blockSize19))))), (.bool (decide (b7 ≤ n1))), (.int .i64 b30), (.bool (decide (blockSize19 < n1))), (.bool (decide (b30 ≤ n1))), d24, d25] H34 (by kernel_rfl) ?_
        refine block_norm ?_
        obtain ⟨m', hm, h⟩ := h
        refine loop_norm ⟨m', hm, _, _, _, rfl, h⟩
      · replace h := h.2 (is_dec.f hc)
        refine w_exit ?_
        refine then_exit ?_
        refine loop_exit ?_
        refine block_exit ?_
        refine then_norm ?_
        refine w_seq ?_
        refine w_seq ?_
        refine w_run [0, 0, 0, 0] ?_
        refine t_done [data0, (.int .i64 n1), (.func cmpg2 cmpc3), (.int .i64 blockSize19), (.int .i64 b30), (.bool (decide (b7 ≤ n1))), (.int .i64 a31), (.bool (decide (blockSize19 < n1))), (.bool (decide (b30 ≤ n1))), (.int .i64 (IntKind.wrap .i64 (a31 + blockSize19))), d25] H33 (by kernel_rfl) ?_
        refine then_norm ?_
        refine w_seq ?_
        refine w_run [0, 0, 0] ?_
        refine t_done [data0, (.int .i64 n1), (.func cmpg2 cmpc3), (.int .i64 blockSize19), (.int .i64 b30), (.bool (decide (b7 ≤ n1))), (.int .i64 a31), (.bool (decide (blockSize19 < n1))), (.bool (decide (b30 ≤ n1))), (.int .i64 (IntKind.wrap .i64 (a31 + blockSize19))), (.bool (decide ((IntKind.wrap .i64 (a31 + blockSize19)) < n1)))] H33 (by kernel_rfl) ?_
        refine then_norm ?_
        refine w_cond (t := (decide ((IntKind.wrap .i64 (a31 + blockSize19)) < n1))) rfl (fun hc => ?_) (fun hc => ?_)
        · replace h := h.1 (is_dec.t hc)
          refine w_run [0, 0, 0, 0, 0, 1] ?_
          refine t_call true nslices_symMergeCmpFunc_speculate_planned [data0, (.int .i64 a31), (.int .i64 (IntKind.wrap .i64 (a31 + blockSize19))), (.int .i64 n1), (.func cmpg2 cmpc3)] H33 (by kernel_rfl) h ?_
          clear h
          rintro _ H37 ⟨rfl, h⟩
          refine t_done [data0, (.int .i64 n1), (.func cmpg2 cmpc3), (.int .i64 blockSize19), (.int .i64 b30), (.bool (decide (b7 ≤ n1))), (.int .i64 a31), (.bool (decide (blockSize19 < n1))), (.bool (decide (b30 ≤ n1))), (.int .i64 (IntKind.wrap .i64 (a31 + blockSize19))), (.bool (decide ((IntKind.wrap .i64 (a31 + blockSize19)) < n1)))] H37 (by kernel_rfl) ?_
          refine then_norm ?_
          refine w_run [0, 0, 0] ?_
          refine t_done [data0, (.int .i64 n1), (.func cmpg2 cmpc3), (.int .i64 (IntKind.wrap .i64 (blockSize19 * 2))), (.int .i64 b30), (.bool (decide (b7 ≤ n1))), (.int .i64 a31), (.bool (decide (blockSize19 < n1))), (.bool (decide (b30 ≤ n1))), (.int .i64 (IntKind.wrap .i64 (a31 + blockSize19))), (.bool (decide ((IntKind.wrap .i64 (a31 + blockSize19)) < n1)))] H37 (by kernel_rfl) ?_
          refine block_norm ?_
          obtain ⟨m', hm, h⟩ := h
          refine loop_norm ⟨m', hm, _, _, _, _, _, _, _, rfl, h⟩
        · replace h := h.2 (is_dec.f hc)
          refine w_skip ?_
          refine then_norm ?_
          refine w_run [0, 0, 0] ?_
          refine t_done [data0, (.int .i64 n1), (.func cmpg2 cmpc3), (.int .i64 (IntKind.wrap .i64 (blockSize19 * 2))), (.int .i64 b30), (.bool (decide (b7 ≤ n1))), (.int .i64 a31), (.bool (decide (blockSize19 < n1))), (.bool (decide (b30 ≤ n1))), (.int .i64 (IntKind.wrap .i64 (a31 + blockSize19))), (.bool (decide ((IntKind.wrap .i64 (a31 + blockSize19)) < n1)))] H33 (by kernel_rfl) ?_
          refine block_norm ?_
          obtain ⟨m', hm, h⟩ := h
          refine loop_norm ⟨m', hm, _, _, _, _, _, _, _, rfl, h⟩
    · replace h := h.2 (is_dec.f hc)
      refine w_exit ?_
      refine then_exit ?_
      refine loop_exit ?_
      refine block_exit ?_
      exact body_norm (vs := []) _ (by kernel_rfl) rfl h

def rf_slices_insertionSortCmpFunc_speculate_planned : RFunc := ⟨4, 8, [],
 ((.seq (.ops [⟨.move (.var 1), none, none, true⟩, ⟨.bin .add .no (.loc 0) (.k (.int .i64 1)), none, none, true⟩, ⟨.move (.loc 1), none, (some 4), true⟩])
 (.block 0 (.loop ((.seq ((.seq (.ops [⟨.move (.var 4), none, none, true⟩, ⟨.move (.var 2), none, none, true⟩, ⟨.bin .lss .no (.loc 0) (.loc 1), none, (some 5), true⟩])
 (.cond (.var 5) (.skip) (.exit 0))))
 ((.seq (.block 1 ((.seq (.ops [⟨.move (.var 4), none, none, true⟩, ⟨.move (.loc 0), none, (some 6), true⟩])
 (.block 2 (.loop ((.seq ((.seq (.ops [⟨.move (.var 6), none, none, true⟩, ⟨.move (.var 1), none, none, true⟩, ⟨.bin .gtr .no (.loc 0) (.loc 1), none, none, true⟩, ⟨.move (.loc 2), none, none, true⟩, ⟨.move (.var 3), none, none, false⟩, ⟨.move (.var 0), none, none, false⟩, ⟨.move (.var 6), none, none, false⟩, ⟨.indexAddr 3 (.loc 5) (.loc 6), (some (3, true)), none, false⟩, ⟨.load (some 3) (.loc 7), (some (3, true)), none, false⟩, ⟨.move (.var 0), none, none, false⟩, ⟨.move (.var 6), none, none, false⟩, ⟨.bin .sub .no (.loc 10) (.k (.int .i64 1)), none, none, false⟩, ⟨.indexAddr 3 (.loc 9) (.loc 11), (some (3, true)), none, false⟩, ⟨.load (some 3) (.loc 12), (some (3, true)), none, false⟩, ⟨.call (.loc 4) [(.loc 8), (.loc 13)], (some (3, true)), none, true⟩, ⟨.bin .lss .no (.loc 14) (.k (.int .i64 0)), (some (3, true)), none, true⟩, ⟨.pick (.loc 3) (.loc 15) (.k (.bool false)), none, (some 7), true⟩])
 (.cond (.var 7) (.skip) (.exit 2))))
 ((.seq (.block 3 (.ops [⟨.move (.var 0), none, none, false⟩, ⟨.move (.var 6), none, none, false⟩, ⟨.move (.var 0), none, none, false⟩, ⟨.move (.var 6), none, none, false⟩, ⟨.bin .sub .no (.loc 3) (.k (.int .i64 1)), none, none, false⟩, ⟨.move (.var 0), none, none, false⟩, ⟨.move (.var 6), none, none, false⟩, ⟨.bin .sub .no (.loc 6) (.k (.int .i64 1)), none, none, false⟩, ⟨.indexAddr 3 (.loc 5) (.loc 7), none, none, false⟩, ⟨.load (some 3) (.loc 8), none, none, false⟩, ⟨.move (.var 0), none, none, false⟩, ⟨.move (.var 6), none, none, false⟩, ⟨.indexAddr 3 (.loc 10) (.loc 11), none, none, false⟩, ⟨.load (some 3) (.loc 12), none, none, false⟩, ⟨.indexAddr 3 (.loc 0) (.loc 1), none, none, true⟩, ⟨.store 3 (.loc 14) (.loc 9) [], none, none, true⟩, ⟨.indexAddr 3 (.loc 2) (.loc 4), none, none, true⟩, ⟨.store 3 (.loc 16) (.loc 13) [], none, none, true⟩]))
 (.ops [⟨.move (.var 6), none, none, true⟩, ⟨.bin .sub .no (.loc 0) (.k (.int .i64 1)), none, none, true⟩, ⟨.move (.loc 1), none, (some 6), true⟩]))))))))))
 (.ops [⟨.move (.var 4), none, none, true⟩, ⟨.bin .add .no (.loc 0) (.k (.int .i64 1)), none, none, true⟩, ⟨.move (.loc 1), none, (some 4), true⟩]))))))))), none⟩
theorem v_slices_insertionSortCmpFunc_speculate_planned {F : Nat → Option RFunc} {me : Nat} (hF : F me = some (rf_slices_insertionSortCmpFunc_speculate_planned )) {fl : Nat} {H : Heap} {Q : AV → Heap → Prop} (data0 : AV) (a1 : Int) (b2 : Int) (cmpg3 : Nat) (cmpc4 : List AV)
  (h : ∃ (J5 : Nat → Int → Heap → Prop) (k6 : Nat), J5 k6 (IntKind.wrap .i64 (a1 + 1)) H ∧ (∀ (m7 : Nat) (i8 : Int) (H12 : Heap), J5 m7 i8 H12 → ((i8 < b2) → ∃ (J13 : Nat → Int → Heap → Prop) (k14 : Nat), J13 k14 i8 H12 ∧ (∀ (m15 : Nat) (j16 : Int) (H18 : Heap), J13 m15 j16 H18 → ((j16 > a1) → ∃ (e19 : Int) (e20 : AV) (e21 : Int), getA H18 3 (some 3) data0 j16 0 = some (.agg [(.int .i64 e19), e20, (.int .i64 e21)]) ∧ ∃ (e23 : Int) (e24 : AV) (e25 : Int), getA H18 3 (some 3) data0 (IntKind.wrap .i64 (j16 - 1)) 0 = some (.agg [(.int .i64 e23), e24, (.int .i64 e25)]) ∧ Ret F fl cmpg3 (([(.agg [(.int .i64 e19), e20, (.int .i64 e21)]), (.agg [(.int .i64 e23), e24, (.int .i64 e25)])] : List AV) ++ cmpc4) H18 (fun v29 H28 => ∃ (r27 : Int), v29 = (.int .i64 r27) ∧ ((r27 < 0) → ∃ (e30 : Int) (e31 : AV) (e32 : Int), getA H28 3 (some 3) data0 (IntKind.wrap .i64 (j16 - 1)) 0 = some (.agg [(.int .i64 e30), e31, (.int .i64 e32)]) ∧ ∃ (e34 : Int) (e35 : AV) (e36 : Int), getA H28 3 (some 3) data0 j16 0 = some (.agg [(.int .i64 e34), e35, (.int .i64 e36)]) ∧ ∃ b38 o39 : Nat, ptrA 3 data0 j16 = some (b38, o39) ∧ ∃ H40 : Heap, putA fl H28 b38 o39 3 (.agg [(.int .i64 e30), e31, (.int .i64 e32)]) = some H40 ∧ ∃ b41 o42 : Nat, ptrA 3 data0 (IntKind.wrap .i64 (j16 - 1)) = some (b41, o42) ∧ ∃ H43 : Heap, putA fl H40 b41 o42 3 (.agg [(.int .i64 e34), e35, (.int .i64 e36)]) = some H43 ∧ ∃ m44 : Nat, m44 < m15 ∧ J13 m44 (IntKind.wrap .i64 (j16 - 1)) H43) ∧ (¬(r27 < 0) → ∃ m45 : Nat, m45 < m7 ∧ J5 m45 (IntKind.wrap .i64 (i8 + 1)) H28))) ∧ (¬(j16 > a1) → ∃ m46 : Nat, m46 < m7 ∧ J5 m46 (IntKind.wrap .i64 (i8 + 1)) H18))) ∧ (¬(i8 < b2) → Q .undef H12))) : Ret F fl me [data0, (.int .i64 a1), (.int .i64 b2), (.func cmpg3 cmpc4)] H Q := by
  refine ret_intro hF rfl ?_
  refine w_seq ?_
  refine w_run [0, 0, 0] ?_
  refine t_done [data0, (.int .i64 a1), (.int .i64 b2), (.func cmpg3 cmpc4), (.int .i64 (IntKind.wrap .i64 (a1 + 1))), .undef, .undef, .undef] H (by kernel_rfl) ?_
  refine then_norm ?_
  refine w_block ?_
  obtain ⟨J5, k6, h0, h⟩ := h
  refine w_loop (I := fun mI EI HI => ∃ (i8 : Int) (d9 : AV) (d10 : AV) (d11 : AV), EI = [data0, (.int .i64 a1), (.int .i64 b2), (.func cmpg3 cmpc4), (.int .i64 i8), d9, d10, d11] ∧ J5 mI i8 HI) ?_ k6 ⟨_, _, _, _, rfl, h0⟩
  clear h0
  rintro m7 EI H12 ⟨i8, d9, d10, d11, rfl, hJ⟩
  replace h := h m7 i8 H12 hJ
  clear hJ
  refine w_seq ?_
  refine w_seq ?_
  refine w_run [0, 0, 0] ?_
  refine t_done [data0, (.int .i64 a1), (.int .i64 b2), (.func cmpg3 cmpc4), (.int .i64 i8), (.bool (decide (i8 < b2))), d10, d11] H12 (by kernel_rfl) ?_
  refine then_norm ?_
  refine w_cond (t := (decide (i8 < b2))) rfl (fun hc => ?_) (fun hc => ?_)
  · replace h := h.1 (is_dec.t hc)
    refine w_skip ?_
    refine then_norm ?_
    refine w_seq ?_
    refine w_block ?_
    refine w_seq ?_
    refine w_run [0, 0] ?_
    refine t_done [data0, (.int .i64 a1), (.int .i64 b2), (.func cmpg3 cmpc4), (.int .i64 i8), (.bool (decide (i8 < b2))), (.int .i64 i8), d11] H12 (by kernel_rfl) ?_
    refine then_norm ?_
    refine w_block ?_
    obtain ⟨J13, k14, h0, h⟩ := h
    refine w_loop (I := fun mI EI HI => ∃ (j16 : Int) (d17 : AV), EI = [data0, (.int .i64 a1), (.int .i64 b2), (.func cmpg3 cmpc4), (.int .i64 i8), (.bool (decide (i8 < b2))), (.int .i64 j16), d17] ∧ J13 mI j16 HI) ?_ k14 ⟨_, _, rfl, h0⟩
    clear h0
    rintro m15 EI H18 ⟨j16, d17, rfl, hJ⟩
    replace h := h m15 j16 H18 hJ
    clear hJ
    refine w_seq ?_
    refine w_seq ?_
    refine w_run [0, 0, 0, 0, 0, 0, 0, 3, 3, 0, 0, 0, 3, 3, 3, 2, 0] ?_
    refine t_gd (decide (j16 > a1)) true (by kernel_rfl) (fun hc => ?_) (fun hc => ?_)
    · replace h := h.1 (is_dec.t hc)
      obtain ⟨e19, e20, e21, hg22, h⟩ := h
      refine t_idxG false 3 data0 .i64 j16 H18 (by kernel_rfl) hg22 ?_
      refine t_gd true true (by kernel_rfl) (fun _ => ?_) (fun hn => by cases hn)
      refine t_loadG false (some 3) 3 data0 j16 0 (.agg [(.int .i64 e19), e20, (.int .i64 e21)]) H18 (by kernel_rfl) hg22 ?_
      refine t_gd true true (by kernel_rfl) (fun _ => ?_) (fun hn => by cases hn)
      obtain ⟨e23, e24, e25, hg26, h⟩ := h
      refine t_idxG false 3 data0 .i64 (IntKind.wrap .i64 (j16 - 1)) H18 (by kernel_rfl) hg26 ?_
      refine t_gd true true (by kernel_rfl) (fun _ => ?_) (fun hn => by cases hn)
      refine t_loadG false (some 3) 3 data0 (IntKind.wrap .i64 (j16 - 1)) 0 (.agg [(.int .i64 e23), e24, (.int .i64 e25)]) H18 (by kernel_rfl) hg26 ?_
      refine t_gd true true (by kernel_rfl) (fun _ => ?_) (fun hn => by cases hn)
      refine t_call true cmpg3 (([(.agg [(.int .i64 e19), e20, (.int .i64 e21)]), (.agg [(.int .i64 e23), e24, (.int .i64 e25)])] : List AV) ++ cmpc4) H18 (by kernel_rfl) h ?_
      clear h
      rintro _ H28 ⟨r27, rfl, h⟩
      refine t_gd true true (by kernel_rfl) (fun _ => ?_) (fun hn => by cases hn)
      refine t_done [data0, (.int .i64 a1), (.int .i64 b2), (.func cmpg3 cmpc4), (.int .i64 i8), (.bool (decide (i8 < b2))), (.int .i64 j16), (.bool (decide (r27 < 0)))] H28 (by kernel_rfl) ?_
      refine then_norm ?_
      refine w_cond (t := (decide (r27 < 0))) rfl (fun hc => ?_) (fun hc => ?_)
      · replace h := h.1 (is_dec.t hc)
        refine w_skip ?_
        refine then_norm ?_
        refine w_seq ?_
        refine w_block ?_
        refine w_run [0, 0, 0, 0, 0, 0, 0, 0, 1, 1, 0, 0, 1, 1, 1, 1, 1, 1] ?_
        obtain ⟨e30, e31, e32, hg33, h⟩ := h
        refine t_idxG false 3 data0 .i64 (IntKind.wrap .i64 (j16 - 1)) H28 (by kernel_rfl) hg33 ?_
        refine t_loadG false (some 3) 3 data0 (IntKind.wrap .i64 (j16 - 1)) 0 (.agg [(.int .i64 e30), e31, (.int .i64 e32)]) H28 (by kernel_rfl) hg33 ?_
        obtain ⟨e34, e35, e36, hg37, h⟩ := h
        refine t_idxG false 3 data0 .i64 j16 H28 (by kernel_rfl) hg37 ?_
        refine t_loadG false (some 3) 3 data0 j16 0 (.agg [(.int .i64 e34), e35, (.int .i64 e36)]) H28 (by kernel_rfl) hg37 ?_
        obtain ⟨b38, o39, hp, h⟩ := h
        refine t_idx true 3 data0 .i64 j16 b38 o39 H28 (by kernel_rfl) hp ?_
        obtain ⟨H40, hp, h⟩ := h
        refine t_store true 3 b38 o39 (.agg [(.int .i64 e30), e31, (.int .i64 e32)]) H40 H28 (by kernel_rfl) hp ?_
        obtain ⟨b41, o42, hp, h⟩ := h
        refine t_idx true 3 data0 .i64 (IntKind.wrap .i64 (j16 - 1)) b41 o42 H40 (by kernel_rfl) hp ?_
        obtain ⟨H43, hp, h⟩ := h
        refine t_store true 3 b41 o42 (.agg [(.int .i64 e34), e35, (.int .i64 e36)]) H43 H40 (by kernel_rfl) hp ?_
        refine t_done [data0, (.int .i64 a1), (.int .i64 b2), (.func cmpg3 cmpc4), (.int .i64 i8), (.bool (decide (i8 < b2))), (.int .i64 j16), (.bool (decide (r27 < 0)))] H43 (by kernel_rfl) ?_
        refine block_norm ?_
        refine then_norm ?_
        refine w_run [0, 0, 0] ?_
        refine t_done [data0, (.int .i64 a1), (.int .i64 b2), (.func cmpg3 cmpc4), (.int .i64 i8), (.bool (decide (i8 < b2))), (.int .i64 (IntKind.wrap .i64 (j16 - 1))), (.bool (decide (r27 < 0)))] H43 (by kernel_rfl) ?_
        obtain ⟨m', hm, h⟩ := h
        refine loop_norm ⟨m', hm, _, _, rfl, h⟩
      · replace h := h.2 (is_dec.f hc)
        refine w_exit ?_
        refine then_exit ?_
        refine loop_exit ?_
        refine block_exit ?_
        refine block_norm ?_
        refine then_norm ?_
        refine w_run [0, 0, 0] ?_
        refine t_done [data0, (.int .i64 a1), (.int .i64 b2), (.func cmpg3 cmpc4), (.int .i64 (IntKind.wrap .i64 (i8 + 1))), (.bool (decide (i8 < b2))), (.int .i64 j16), (.bool (decide (r27 < 0)))] H28 (by kernel_rfl) ?_
        obtain ⟨m', hm, h⟩ := h
        refine loop_norm ⟨m', hm, _, _, _, _, rfl, h⟩
    · replace h := h.2 (is_dec.f hc)
      refine t_gd false true (by kernel_rfl) (fun hn => by cases hn) (fun _ => ?_)
      refine t_gd false true (by kernel_rfl) (fun hn => by cases hn) (fun _ => ?_)
      refine t_gd false true (by kernel_rfl) (fun hn => by cases hn) (fun _ => ?_)
      refine t_gd false true (by kernel_rfl) (fun hn => by cases hn) (fun _ => ?_)
      refine t_gd false true (by kernel_rfl) (fun hn => by cases hn) (fun _ => ?_)
      refine t_done [data0, (.int .i64 a1), (.int .i64 b2), (.func cmpg3 cmpc4), (.int .i64 i8), (.bool (decide (i8 < b2))), (.int .i64 j16), (.bool false)] H18 (by kernel_rfl) ?_
      refine then_norm ?_
      refine w_cond (t := false) rfl (fun hc => by cases hc) (fun _ => ?_)
      refine w_exit ?_
      refine then_exit ?_
      refine loop_exit ?_
      refine block_exit ?_
      refine block_norm ?_
      refine then_norm ?_
      refine w_run [0, 0, 0] ?_
      refine t_done [data0, (.int .i64 a1), (.int .i64 b2), (.func cmpg3 cmpc4), (.int .i64 (IntKind.wrap .i64 (i8 + 1))), (.bool (decide (i8 < b2))), (.int .i64 j16), (.bool false)] H18 (by kernel_rfl) ?_
      obtain ⟨m', hm, h⟩ := h
      refine loop_norm ⟨m', hm, _, _, _, _, rfl, h⟩
  · replace h := h.2 (is_dec.f hc)
    refine w_exit ?_
    refine then_exit ?_
    refine loop_exit ?_
    refine block_exit ?_
    exact body_norm (vs := []) _ (by kernel_rfl) rfl h

def rf_slices_symMergeCmpFunc_speculate_planned (nslices_rotateCmpFunc_speculate_planned nslices_symMergeCmpFunc_speculate_planned : Nat) : RFunc := ⟨5, 34, [],
 ((.seq ((.seq (.ops [⟨.move (.var 2), none, none, true⟩, ⟨.move (.var 1), none, none, true⟩, ⟨.bin .sub .no (.loc 0) (.loc 1), none, none, true⟩, ⟨.bin .eql .no (.loc 2) (.k (.int .i64 1)), none, (some 5), true⟩])
 (.cond (.var 5) ((.seq (.ops [⟨.move (.var 2), none, none, true⟩, ⟨.move (.loc 0), none, (some 6), true⟩])
 ((.seq (.ops [⟨.move (.var 3), none, none, true⟩, ⟨.move (.loc 0), none, (some 7), true⟩])
 ((.seq (.block 0 (.loop ((.seq ((.seq (.ops [⟨.move (.var 6), none, none, true⟩, ⟨.move (.var 7), none, none, true⟩, ⟨.bin .lss .no (.loc 0) (.loc 1), none, (some 8), true⟩])
 (.cond (.var 8) (.skip) (.exit 0))))
 (.block 1 ((.seq (.ops [⟨.move (.var 6), none, none, true⟩, ⟨.move (.var 7), none, none, true⟩, ⟨.bin .add .no (.loc 0) (.loc 1), none, none, true⟩, ⟨.convInt .u64 (.loc 2), none, none, true⟩, ⟨.bin .shr .no (.loc 3) (.k (.int .u64 1)), none, none, true⟩, ⟨.convInt .i64 (.loc 4), none, none, true⟩, ⟨.move (.loc 5), none, (some 9), true⟩])
 ((.seq (.ops [⟨.move (.var 4), none, none, false⟩, ⟨.move (.var 0), none, none, false⟩, ⟨.move (.var 9), none, none, false⟩, ⟨.indexAddr 3 (.loc 1) (.loc 2), none, none, false⟩, ⟨.load (some 3) (.loc 3), none, none, false⟩, ⟨.move (.var 0), none, none, false⟩, ⟨.move (.var 1), none, none, false⟩, ⟨.indexAddr 3 (.loc 5) (.loc 6), none, none, false⟩, ⟨.load (some 3) (.loc 7), none, none, false⟩, ⟨.call (.loc 0) [(.loc 4), (.loc 8)], none, none, true⟩, ⟨.bin .lss .no (.loc 9) (.k (.int .i64 0)), none, (some 10), true⟩])
 (.cond (.var 10) (.ops [⟨.move (.var 9), none, none, true⟩, ⟨.bin .add .no (.loc 0) (.k (.int .i64 1)), none, none, true⟩, ⟨.move (.loc 1), none, (some 6), true⟩]) (.ops [⟨.move (.var 9), none, none, true⟩, ⟨.move (.loc 0), none, (some 7), true⟩])))))))))))
 ((.seq ((.seq (.ops [⟨.move (.var 1), none, none, true⟩, ⟨.move (.loc 0), none, (some 11), true⟩])
 (.block 2 (.loop ((.seq ((.seq (.ops [⟨.move (.var 11), none, none, true⟩, ⟨.move (.var 6), none, none, true⟩, ⟨.bin .sub .no (.loc 1) (.k (.int .i64 1)), none, none, true⟩, ⟨.bin .lss .no (.loc 0) (.loc 2), none, (some 12), true⟩])
 (.cond (.var 12) (.skip) (.exit 2))))
 ((.seq (.block 3 (.ops [⟨.move (.var 0), none, none, false⟩, ⟨.move (.var 11), none, none, false⟩, ⟨.move (.var 0), none, none, false⟩, ⟨.move (.var 11), none, none, false⟩, ⟨.bin .add .no (.loc 3) (.k (.int .i64 1)), none, none, false⟩, ⟨.move (.var 0), none, none, false⟩, ⟨.move (.var 11), none, none, false⟩, ⟨.bin .add .no (.loc 6) (.k (.int .i64 1)), none, none, false⟩, ⟨.indexAddr 3 (.loc 5) (.loc 7), none, none, false⟩, ⟨.load (some 3) (.loc 8), none, none, false⟩, ⟨.move (.var 0), none, none, false⟩, ⟨.move (.var 11), none, none, false⟩, ⟨.indexAddr 3 (.loc 10) (.loc 11), none, none, false⟩, ⟨.load (some 3) (.loc 12), none, none, false⟩, ⟨.indexAddr 3 (.loc 0) (.loc 1), none, none, true⟩, ⟨.store 3 (.loc 14) (.loc 9) [], none, none, true⟩, ⟨.indexAddr 3 (.loc 2) (.loc 4), none, none, true⟩, ⟨.store 3 (.loc 16) (.loc 13) [], none, none, true⟩]))
 (.ops [⟨.move (.var 11), none, none, true⟩, ⟨.bin .add .no (.loc 0) (.k (.int .i64 1)), none, none, true⟩, ⟨.move (.loc 1), none, (some 11), true⟩])))))))))
 (.ret))))))))) (.skip))))
 ((.seq ((.seq (.ops [⟨.move (.var 3), none, none, true⟩, ⟨.move (.var 2), none, none, true⟩, ⟨.bin .sub .no (.loc 0) (.loc 1), none, none, true⟩, ⟨.bin .eql .no (.loc 2) (.k (.int .i64 1)), none, (some 13), true⟩])
 (.cond (.var 13) ((.seq (.ops [⟨.move (.var 1), none, none, true⟩, ⟨.move (.loc 0), none, (some 14), true⟩])
 ((.seq (.ops [⟨.move (.var 2), none, none, true⟩, ⟨.move (.loc 0), none, (some 15), true⟩])
 ((.seq (.block 4 (.loop ((.seq ((.seq (.ops [⟨.move (.var 14), none, none, true⟩, ⟨.move (.var 15), none, none, true⟩, ⟨.bin .lss .no (.loc 0) (.loc 1), none, (some 16), true⟩])
 (.cond (.var 16) (.skip) (.exit 4))))
 (.block 5 ((.seq (.ops [⟨.move (.var 14), none, none, true⟩, ⟨.move (.var 15), none, none, true⟩, ⟨.bin .add .no (.loc 0) (.loc 1), none, none, true⟩, ⟨.convInt .u64 (.loc 2), none, none, true⟩, ⟨.bin .shr .no (.loc 3) (.k (.int .u64 1)), none, none, true⟩, ⟨.convInt .i64 (.loc 4), none, none, true⟩, ⟨.move (.loc 5), none, (some 17), true⟩])
 ((.seq (.ops [⟨.move (.var 4), none, none, false⟩, ⟨.move (.var 0), none, none, false⟩, ⟨.move (.var 2), none, none, false⟩, ⟨.indexAddr 3 (.loc 1) (.loc 2), none, none, false⟩, ⟨.load (some 3) (.loc 3), none, none, false⟩, ⟨.move (.var 0), none, none, false⟩, ⟨.move (.var 17), none, none, false⟩, ⟨.indexAddr 3 (.loc 5) (.loc 6), none, none, false⟩, ⟨.load (some 3) (.loc 7), none, none, false⟩, ⟨.call (.loc 0) [(.loc 4), (.loc 8)], none, none, true⟩, ⟨.bin .lss .no (.loc 9) (.k (.int .i64 0)), none, none, true⟩, ⟨.un .not (.loc 10), none, (some 18), true⟩])
 (.cond (.var 18) (.ops [⟨.move (.var 17), none, none, true⟩, ⟨.bin .add .no (.loc 0) (.k (.int .i64 1)), none, none, true⟩, ⟨.move (.loc 1), none, (some 14), true⟩]) (.ops [⟨.move (.var 17), none, none, true⟩, ⟨.move (.loc 0), none, (some 15), true⟩])))))))))))
 ((.seq ((.seq (.ops [⟨.move (.var 2), none, none, true⟩, ⟨.move (.loc 0), none, (some 19), true⟩])
 (.block 6 (.loop ((.seq ((.seq (.ops [⟨.move (.var 19), none, none, true⟩, ⟨.move (.var 14), none, none, true⟩, ⟨.bin .gtr .no (.loc 0) (.loc 1), none, (some 20), true⟩])
 (.cond (.var 20) (.skip) (.exit 6))))
 ((.seq (.block 7 (.ops [⟨.move (.var 0), none, none, false⟩, ⟨.move (.var 19), none, none, false⟩, ⟨.move (.var 0), none, none, false⟩, ⟨.move (.var 19), none, none, false⟩, ⟨.bin .sub .no (.loc 3) (.k (.int .i64 1)), none, none, false⟩, ⟨.move (.var 0), none, none, false⟩, ⟨.move (.var 19), none, none, false⟩, ⟨.bin .sub .no (.loc 6) (.k (.int .i64 1)), none, none, false⟩, ⟨.indexAddr 3 (.loc 5) (.loc 7), none, none, false⟩, ⟨.load (some 3) (.loc 8), none, none, false⟩, ⟨.move (.var 0), none, none, false⟩, ⟨.move (.var 19), none, none, false⟩, ⟨.indexAddr 3 (.loc 10) (.loc 11), none, none, false⟩, ⟨.load (some 3) (.loc 12), none, none, false⟩, ⟨.indexAddr 3 (.loc 0) (.loc 1), none, none, true⟩, ⟨.store 3 (.loc 14) (.loc 9) [], none, none, true⟩, ⟨.indexAddr 3 (.loc 2) (.loc 4), none, none, true⟩, ⟨.store 3 (.loc 16) (.loc 13) [], none, none, true⟩]))
 (.ops [⟨.move (.var 19), none, none, true⟩, ⟨.bin .sub .no (.loc 0) (.k (.int .i64 1)), none, none, true⟩, ⟨.move (.loc 1), none, (some 19), true⟩])))))))))
 (.ret))))))))) (.skip))))
 ((.seq (.ops [⟨.move (.var 1), none, none, true⟩, ⟨.move (.var 3), none, none, true⟩, ⟨.bin .add .no (.loc 0) (.loc 1), none, none, true⟩, ⟨.convInt .u64 (.loc 2), none, none, true⟩, ⟨.bin .shr .no (.loc 3) (.k (.int .u64 1)), none, none, true⟩, ⟨.convInt .i64 (.loc 4), none, none, true⟩, ⟨.move (.loc 5), none, (some 21), true⟩])
 ((.seq (.ops [⟨.move (.var 21), none, none, true⟩, ⟨.move (.var 2), none, none, true⟩, ⟨.bin .add .no (.loc 0) (.loc 1), none, none, true⟩, ⟨.move (.loc 2), none, (some 23), true⟩])
 ((.seq (.ops [⟨.move (.k (.int .i64 0)), none, (some 24), true⟩, ⟨.move (.k (.int .i64 0)), none, (some 25), true⟩])
 ((.seq ((.seq (.ops [⟨.move (.var 2), none, none, true⟩, ⟨.move (.var 21), none, none, true⟩, ⟨.bin .gtr .no (.loc 0) (.loc 1), none, (some 22), true⟩])
 (.cond (.var 22) ((.seq (.ops [⟨.move (.var 23), none, none, true⟩, ⟨.move (.var 3), none, none, true⟩, ⟨.bin .sub .no (.loc 0) (.loc 1), none, none, true⟩, ⟨.move (.loc 2), none, (some 24), true⟩])
 (.ops [⟨.move (.var 21), none, none, true⟩, ⟨.move (.loc 0), none, (some 25), true⟩]))) ((.seq (.ops [⟨.move (.var 1), none, none, true⟩, ⟨.move (.loc 0), none, (some 24), true⟩])
 (.ops [⟨.move (.var 2), none, none, true⟩, ⟨.move (.loc 0), none, (some 25), true⟩]))))))
 ((.seq (.ops [⟨.move (.var 23), none, none, true⟩, ⟨.bin .sub .no (.loc 0) (.k (.int .i64 1)), none, none, true⟩, ⟨.move (.loc 1), none, (some 27), true⟩])
 ((.seq (.block 8 (.loop ((.seq ((.seq (.ops [⟨.move (.var 24), none, none, true⟩, ⟨.move (.var 25), none, none, true⟩, ⟨.bin .lss .no (.loc 0) (.loc 1), none, (some 26), true⟩])
 (.cond (.var 26) (.skip) (.exit 8))))
 (.block 9 ((.seq (.ops [⟨.move (.var 24), none, none, true⟩, ⟨.move (.var 25), none, none, true⟩, ⟨.bin .add .no (.loc 0) (.loc 1), none, none, true⟩, ⟨.convInt .u64 (.loc 2), none, none, true⟩, ⟨.bin .shr .no (.loc 3) (.k (.int .u64 1)), none, none, true⟩, ⟨.convInt .i64 (.loc 4), none, none, true⟩, ⟨.move (.loc 5), none, (some 28), true⟩])
 ((.seq (.ops [⟨.move (.var 4), none, none, false⟩, ⟨.move (.var 0), none, none, false⟩, ⟨.move (.var 27), none, none, false⟩, ⟨.move (.var 28), none, none, false⟩, ⟨.bin .sub .no (.loc 2) (.loc 3), none, none, false⟩, ⟨.indexAddr 3 (.loc 1) (.loc 4), none, none, false⟩, ⟨.load (some 3) (.loc 5), none, none, false⟩, ⟨.move (.var 0), none, none, false⟩, ⟨.move (.var 28), none, none, false⟩, ⟨.indexAddr 3 (.loc 7) (.loc 8), none, none, false⟩, ⟨.load (some 3) (.loc 9), none, none, false⟩, ⟨.call (.loc 0) [(.loc 6), (.loc 10)], none, none, true⟩, ⟨.bin .lss .no (.loc 11) (.k (.int .i64 0)), none, none, true⟩, ⟨.un .not (.loc 12), none, (some 29), true⟩])
 (.cond (.var 29) (.ops [⟨.move (.var 28), none, none, true⟩, ⟨.bin .add .no (.loc 0) (.k (.int .i64 1)), none, none, true⟩, ⟨.move (.loc 1), none, (some 24), true⟩]) (.ops [⟨.move (.var 28), none, none, true⟩, ⟨.move (.loc 0), none, (some 25), true⟩])))))))))))
 ((.seq (.ops [⟨.move (.var 23), none, none, true⟩, ⟨.move (.var 24), none, none, true⟩, ⟨.bin .sub .no (.loc 0) (.loc 1), none, none, true⟩, ⟨.move (.loc 2), none, (some 30), true⟩])
 ((.seq ((.seq (.ops [⟨.move (.var 24), none, none, true⟩, ⟨.move (.var 2), none, none, true⟩, ⟨.bin .lss .no (.loc 0) (.loc 1), none, none, true⟩, ⟨.move (.loc 2), none, none, true⟩, ⟨.move (.var 2), none, none, true⟩, ⟨.move (.var 30), none, none, true⟩, ⟨.bin .lss .no (.loc 4) (.loc 5), none, none, true⟩, ⟨.pick (.loc 3) (.loc 6) (.k (.bool false)), none, (some 31), true⟩])
 (.cond (.var 31) (.ops [⟨.move (.var 0), none, none, true⟩, ⟨.move (.var 24), none, none, true⟩, ⟨.move (.var 2), none, none, true⟩, ⟨.move (.var 30), none, none, true⟩, ⟨.move (.var 4), none, none, true⟩, ⟨.callS nslices_rotateCmpFunc_speculate_planned [(.loc 0), (.loc 1), (.loc 2), (.loc 3), (.loc 4)], none, none, true⟩]) (.skip))))
 ((.seq ((.seq (.ops [⟨.move (.var 1), none, none, true⟩, ⟨.move (.var 24), none, none, true⟩, ⟨.bin .lss .no (.loc 0) (.loc 1), none, none, true⟩, ⟨.move (.loc 2), none, none, true⟩, ⟨.move (.var 24), none, none, true⟩, ⟨.move (.var 21), none, none, true⟩, ⟨.bin .lss .no (.loc 4) (.loc 5), none, none, true⟩, ⟨.pick (.loc 3) (.loc 6) (.k (.bool false)), none, (some 32), true⟩])
 (.cond (.var 32) (.ops [⟨.move (.var 0), none, none, true⟩, ⟨.move (.var 1), none, none, true⟩, ⟨.move (.var 24), none, none, true⟩, ⟨.move (.var 21), none, none, true⟩, ⟨.move (.var 4), none, none, true⟩, ⟨.callS nslices_symMergeCmpFunc_speculate_planned [(.loc 0), (.loc 1), (.loc 2), (.loc 3), (.loc 4)], none, none, true⟩]) (.skip))))
 ((.seq (.ops [⟨.move (.var 21), none, none, true⟩, ⟨.move (.var 30), none, none, true⟩, ⟨.bin .lss .no (.loc 0) (.loc 1), none, none, true⟩, ⟨.move (.loc 2), none, none, true⟩, ⟨.move (.var 30), none, none, true⟩, ⟨.move (.var 3), none, none, true⟩, ⟨.bin .lss .no (.loc 4) (.loc 5), none, none, true⟩, ⟨.pick (.loc 3) (.loc 6) (.k (.bool false)), none, (some 33), true⟩])
 (.cond (.var 33) (.ops [⟨.move (.var 0), none, none, true⟩, ⟨.move (.var 21), none, none, true⟩, ⟨.move (.var 30), none, none, true⟩, ⟨.move (.var 3), none, none, true⟩, ⟨.move (.var 4), none, none, true⟩, ⟨.callS nslices_symMergeCmpFunc_speculate_planned [(.loc 0), (.loc 1), (.loc 2), (.loc 3), (.loc 4)], none, none, true⟩]) (.skip)))))))))))))))))))))))))), none⟩
theorem v_slices_symMergeCmpFunc_speculate_planned {F : Nat → Option RFunc} {me nslices_rotateCmpFunc_speculate_planned nslices_symMergeCmpFunc_speculate_planned : Nat} (hF : F me = some (rf_slices_symMergeCmpFunc_speculate_planned nslices_rotateCmpFunc_speculate_planned nslices_symMergeCmpFunc_speculate_planned)) {fl : Nat} {H : Heap} {Q : AV → Heap → Prop} (data0 : AV) (a1 : Int) (m2 : Int) (b3 : Int) (cmpg4 : Nat) (cmpc5 : List AV)
  (h : (((IntKind.wrap .i64 (m2 - a1)) = 1) → ∃ (J6 : Nat → Int → Int → Heap → Prop) (k7 : Nat), J6 k7 m2 b3 H ∧ (∀ (m8 : Nat) (i9 : Int) (j10 : Int) (H14 : Heap), J6 m8 i9 j10 H14 → ((i9 < j10) → ∃ (e15 : Int) (e16 : AV) (e17 : Int), getA H14 3 (some 3) data0 (IntKind.wrap .i64 ((Int.fdiv (IntKind.wrap .u64 ((IntKind.wrap .i64 (i9 + j10)))) (2 ^ (Min.min (Int.toNat 1) (IntKind.bits .u64)))))) 0 = some (.agg [(.int .i64 e15), e16, (.int .i64 e17)]) ∧ ∃ (e19 : Int) (e20 : AV) (e21 : Int), getA H14 3 (some 3) data0 a1 0 = some (.agg [(.int .i64 e19), e20, (.int .i64 e21)]) ∧ Ret F fl cmpg4 (([(.agg [(.int .i64 e15), e16, (.int .i64 e17)]), (.agg [(.int .i64 e19), e20, (.int .i64 e21)])] : List AV) ++ cmpc5) H14 (fun v25 H24 => ∃ (r23 : Int), v25 = (.int .i64 r23) ∧ ((r23 < 0) → ∃ m26 : Nat, m26 < m8 ∧ J6 m26 (IntKind.wrap .i64 ((IntKind.wrap .i64 ((Int.fdiv (IntKind.wrap .u64 ((IntKind.wrap .i64 (i9 + j10)))) (2 ^ (Min.min (Int.toNat 1) (IntKind.bits .u64)))))) + 1)) j10 H24) ∧ (¬(r23 < 0) → ∃ m27 : Nat, m27 < m8 ∧ J6 m27 i9 (IntKind.wrap .i64 ((Int.fdiv (IntKind.wrap .u64 ((IntKind.wrap .i64 (i9 + j10)))) (2 ^ (Min.min (Int.toNat 1) (IntKind.bits .u64)))))) H24))) ∧ (¬(i9 < j10) → ∃ (J28 : Nat → Int → Heap → Prop) (k29 : Nat), J28 k29 a1 H14 ∧ (∀ (m30 : Nat) (k31 : Int) (H33 : Heap), J28 m30 k31 H33 → ((k31 < (IntKind.wrap .i64 (i9 - 1))) → ∃ (e34 : Int) (e35 : AV) (e36 : Int), getA H33 3 (some 3) data0 (IntKind.wrap .i64 (k31 + 1)) 0 = some (.agg [(.int .i64 e34), e35, (.int .i64 e36)]) ∧ ∃ (e38 : Int) (e39 : AV) (e40 : Int), getA H33 3 (some 3) data0 k31 0 = some (.agg [(.int .i64 e38), e39, (.int .i64 e40)]) ∧ ∃ b42 o43 : Nat, ptrA 3 data0 k31 = some (b42, o43) ∧ ∃ H44 : Heap, putA fl H33 b42 o43 3 (.agg [(.int .i64 e34), e35, (.int .i64 e36)]) = some H44 ∧ ∃ b45 o46 : Nat, ptrA 3 data0 (IntKind.wrap .i64 (k31 + 1)) = some (b45, o46) ∧ ∃ H47 : Heap, putA fl H44 b45 o46 3 (.agg [(.int .i64 e38), e39, (.int .i64 e40)]) = some H47 ∧ ∃ m48 : Nat, m48 < m30 ∧ J28 m48 (IntKind.wrap .i64 (k31 + 1)) H47) ∧ (¬(k31 < (IntKind.wrap .i64 (i9 - 1))) → Q .undef H33))))) ∧ (¬((IntKind.wrap .i64 (m2 - a1)) = 1) → (((IntKind.wrap .i64 (b3 - m2)) = 1) → ∃ (J49 : Nat → Int → Int → Heap → Prop) (k50 : Nat), J49 k50 a1 m2 H ∧ (∀ (m51 : Nat) (i52 : Int) (j53 : Int) (H57 : Heap), J49 m51 i52 j53 H57 → ((i52 < j53) → ∃ (e58 : Int) (e59 : AV) (e60 : Int), getA H57 3 (some 3) data0 m2 0 = some (.agg [(.int .i64 e58), e59, (.int .i64 e60)]) ∧ ∃ (e62 : Int) (e63 : AV) (e64 : Int), getA H57 3 (some 3) data0 (IntKind.wrap .i64 ((Int.fdiv (IntKind.wrap .u64 ((IntKind.wrap .i64 (i52 + j53)))) (2 ^ (Min.min (Int.toNat 1) (IntKind.bits .u64)))))) 0 = some (.agg [(.int .i64 e62), e63, (.int .i64 e64)]) ∧ Ret F fl cmpg4 (([(.agg [(.int .i64 e58), e59, (.int .i64 e60)]), (.agg [(.int .i64 e62), e63, (.int .i64 e64)])] : List AV) ++ cmpc5) H57 (fun v68 H67 => ∃ (r66 : Int), v68 = (.int .i64 r66) ∧ ((¬(r66 < 0)) → ∃ m69 : Nat, m69 < m51 ∧ J49 m69 (IntKind.wrap .i64 ((IntKind.wrap .i64 ((Int.fdiv (IntKind.wrap .u64 ((IntKind.wrap .i64 (i52 + j53)))) (2 ^ (Min.min (Int.toNat 1) (IntKind.bits .u64)))))) + 1)) j53 H67) ∧ (¬(¬(r66 < 0)) → ∃ m70 : Nat, m70 < m51 ∧ J49 m70 i52 (IntKind.wrap .i64 ((Int.fdiv (IntKind.wrap .u64 ((IntKind.wrap .i64 (i52 + j53)))) (2 ^ (Min.min (Int.toNat 1) (IntKind.bits .u64)))))) H67))) ∧ (¬(i52 < j53) → ∃ (J71 : Nat → Int → Heap → Prop) (k72 : Nat), J71 k72 m2 H57 ∧ (∀ (m73 : Nat) (k74 : Int) (H76 : Heap), J71 m73 k74 H76 → ((k74 > i52) → ∃ (e77 : Int) (e78 : AV) (e79 : Int), getA H76 3 (some 3) data0 (IntKind.wrap .i64 (k74 - 1)) 0 = some (.agg [(.int .i64 e77), e78, (.int .i64 e79)]) ∧ ∃ (e81 : Int) (e82 : AV) (e83 : Int), getA H76 3 (some 3) data0 k74 0 = some (.agg [(.int .i64 e81), e82, (.int .i64 e83)]) ∧ ∃ b85 o86 : Nat, ptrA 3 data0 k74 = some (b85, o86) ∧ ∃ H87 : Heap, putA fl H76 b85 o86 3 (.agg [(.int .i64 e77), e78, (.int .i64 e79)]) = some H87 ∧ ∃ b88 o89 : Nat, ptrA 3 data0 (IntKind.wrap .i64 (k74 - 1)) = some (b88, o89) ∧ ∃ H90 : Heap, putA fl H87 b88 o89 3 (.agg [(.int .i64 e81), e82, (.int .i64 e83)]) = some H90 ∧ ∃ m91 : Nat, m91 < m73 ∧ J71 m91 (IntKind.wrap .i64 (k74 - 1)) H90) ∧ (¬(k74 > i52) → Q .undef H76))))) ∧ (¬((IntKind.wrap .i64 (b3 - m2)) = 1) → ∃ (R92 : Int → Int → Prop), (((m2 > (IntKind.wrap .i64 ((Int.fdiv (IntKind.wrap .u64 ((IntKind.wrap .i64 (a1 + b3)))) (2 ^ (Min.min (Int.toNat 1) (IntKind.bits .u64))))))) → R92 (IntKind.wrap .i64 ((IntKind.wrap .i64 ((IntKind.wrap .i64 ((Int.fdiv (IntKind.wrap .u64 ((IntKind.wrap .i64 (a1 + b3)))) (2 ^ (Min.min (Int.toNat 1) (IntKind.bits .u64)))))) + m2)) - b3)) (IntKind.wrap .i64 ((Int.fdiv (IntKind.wrap .u64 ((IntKind.wrap .i64 (a1 + b3)))) (2 ^ (Min.min (Int.toNat 1) (IntKind.bits .u64))))))) ∧ (¬(m2 > (IntKind.wrap .i64 ((Int.fdiv (IntKind.wrap .u64 ((IntKind.wrap .i64 (a1 + b3)))) (2 ^ (Min.min (Int.toNat 1) (IntKind.bits .u64))))))) → R92 a1 m2)) ∧ (∀ (start94 : Int) (r95 : Int), R92 start94 r95 → ∃ (J96 : Nat → Int → Int → Heap → Prop) (k97 : Nat), J96 k97 start94 r95 H ∧ (∀ (m98 : Nat) (start99 : Int) (r100 : Int) (H104 : Heap), J96 m98 start99 r100 H104 → ((start99 < r100) → ∃ (e105 : Int) (e106 : AV) (e107 : Int), getA H104 3 (some 3) data0 (IntKind.wrap .i64 ((IntKind.wrap .i64 ((IntKind.wrap .i64 ((IntKind.wrap .i64 ((Int.fdiv (IntKind.wrap .u64 ((IntKind.wrap .i64 (a1 + b3)))) (2 ^ (Min.min (Int.toNat 1) (IntKind.bits .u64)))))) + m2)) - 1)) - (IntKind.wrap .i64 ((Int.fdiv (IntKind.wrap .u64 ((IntKind.wrap .i64 (start99 + r100)))) (2 ^ (Min.min (Int.toNat 1) (IntKind.bits .u64)))))))) 0 = some (.agg [(.int .i64 e105), e106, (.int .i64 e107)]) ∧ ∃ (e109 : Int) (e110 : AV) (e111 : Int), getA H104 3 (some 3) data0 (IntKind.wrap .i64 ((Int.fdiv (IntKind.wrap .u64 ((IntKind.wrap .i64 (start99 + r100)))) (2 ^ (Min.min (Int.toNat 1) (IntKind.bits .u64)))))) 0 = some (.agg [(.int .i64 e109), e110, (.int .i64 e111)]) ∧ Ret F fl cmpg4 (([(.agg [(.int .i64 e105), e106, (.int .i64 e107)]), (.agg [(.int .i64 e109), e110, (.int .i64 e111)])] : List AV) ++ cmpc5) H104 (fun v115 H114 => ∃ (r113 : Int), v115 = (.int .i64 r113) ∧ ((¬(r113 < 0)) → ∃ m116 : Nat, m116 < m98 ∧ J96 m116 (IntKind.wrap .i64 ((IntKind.wrap .i64 ((Int.fdiv (IntKind.wrap .u64 ((IntKind.wrap .i64 (start99 + r100)))) (2 ^ (Min.min (Int.toNat 1) (IntKind.bits .u64)))))) + 1)) r100 H114) ∧ (¬(¬(r113 < 0)) → ∃ m117 : Nat, m117 < m98 ∧ J96 m117 start99 (IntKind.wrap .i64 ((Int.fdiv (IntKind.wrap .u64 ((IntKind.wrap .i64 (start99 + r100)))) (2 ^ (Min.min (Int.toNat 1) (IntKind.bits .u64)))))) H114))) ∧ (¬(start99 < r100) → ((((start99 < m2) ∧ (m2 < (IntKind.wrap .i64 ((IntKind.wrap .i64 ((IntKind.wrap .i64 ((Int.fdiv (IntKind.wrap .u64 ((IntKind.wrap .i64 (a1 + b3)))) (2 ^ (Min.min (Int.toNat 1) (IntKind.bits .u64)))))) + m2)) - start99))))) → Ret F fl nslices_rotateCmpFunc_speculate_planned [data0, (.int .i64 start99), (.int .i64 m2), (.int .i64 (IntKind.wrap .i64 ((IntKind.wrap .i64 ((IntKind.wrap .i64 ((Int.fdiv (IntKind.wrap .u64 ((IntKind.wrap .i64 (a1 + b3)))) (2 ^ (Min.min (Int.toNat 1) (IntKind.bits .u64)))))) + m2)) - start99))), (.func cmpg4 cmpc5)] H104 (fun v119 H118 => v119 = .undef ∧ ((((a1 < start99) ∧ (start99 < (IntKind.wrap .i64 ((Int.fdiv (IntKind.wrap .u64 ((IntKind.wrap .i64 (a1 + b3)))) (2 ^ (Min.min (Int.toNat 1) (IntKind.bits .u64))))))))) → Ret F fl nslices_symMergeCmpFunc_speculate_planned [data0, (.int .i64 a1), (.int .i64 start99), (.int .i64 (IntKind.wrap .i64 ((Int.fdiv (IntKind.wrap .u64 ((IntKind.wrap .i64 (a1 + b3)))) (2 ^ (Min.min (Int.toNat 1) (IntKind.bits .u64))))))), (.func cmpg4 cmpc5)] H118 (fun v121 H120 => v121 = .undef ∧ (((((IntKind.wrap .i64 ((Int.fdiv (IntKind.wrap .u64 ((IntKind.wrap .i64 (a1 + b3)))) (2 ^ (Min.min (Int.toNat 1) (IntKind.bits .u64)))))) < (IntKind.wrap .i64 ((IntKind.wrap .i64 ((IntKind.wrap .i64 ((Int.fdiv (IntKind.wrap .u64 ((IntKind.wrap .i64 (a1 + b3)))) (2 ^ (Min.min (Int.toNat 1) (IntKind.bits .u64)))))) + m2)) - start99))) ∧ ((IntKind.wrap .i64 ((IntKind.wrap .i64 ((IntKind.wrap .i64 ((Int.fdiv (IntKind.wrap .u64 ((IntKind.wrap .i64 (a1 + b3)))) (2 ^ (Min.min (Int.toNat 1) (IntKind.bits .u64)))))) + m2)) - start99)) < b3))) → Ret F fl nslices_symMergeCmpFunc_speculate_planned [data0, (.int .i64 (IntKind.wrap .i64 ((Int.fdiv (IntKind.wrap .u64 ((IntKind.wrap .i64 (a1 + b3)))) (2 ^ (Min.min (Int.toNat 1) (IntKind.bits .u64))))))), (.int .i64 (IntKind.wrap .i64 ((IntKind.wrap .i64 ((IntKind.wrap .i64 ((Int.fdiv (IntKind.wrap .u64 ((IntKind.wrap .i64 (a1 + b3)))) (2 ^ (Min.min (Int.toNat 1) (IntKind.bits .u64)))))) + m2)) - start99))), (.int .i64 b3), (.func cmpg4 cmpc5)] H120 (fun v123 H122 => v123 = .undef ∧ Q .undef H122)) ∧ (¬((((IntKind.wrap .i64 ((Int.fdiv (IntKind.wrap .u64 ((IntKind.wrap .i64 (a1 + b3)))) (2 ^ (Min.min (Int.toNat 1) (IntKind.bits .u64)))))) < (IntKind.wrap .i64 ((IntKind.wrap .i64 ((IntKind.wrap .i64 ((Int.fdiv (IntKind.wrap .u64 ((IntKind.wrap .i64 (a1 + b3)))) (2 ^ (Min.min (Int.toNat 1) (IntKind.bits .u64)))))) + m2)) - start99))) ∧ ((IntKind.wrap .i64 ((IntKind.wrap .i64 ((IntKind.wrap .i64 ((Int.fdiv (IntKind.wrap .u64 ((IntKind.wrap .i64 (a1 + b3)))) (2 ^ (Min.min (Int.toNat 1) (IntKind.bits .u64)))))) + m2)) - start99)) < b3))) → Q .undef H120))) ∧ (¬(((a1 < start99) ∧ (start99 < (IntKind.wrap .i64 ((Int.fdiv (IntKind.wrap .u64 ((IntKind.wrap .i64 (a1 + b3)))) (2 ^ (Min.min (Int.toNat 1) (IntKind.bits .u64))))))))) → (((((IntKind.wrap .i64 ((Int.fdiv (IntKind.wrap .u64 ((IntKind.wrap .i64 (a1 + b3)))) (2 ^ (Min.min (Int.toNat 1) (IntKind.bits .u64)))))) < (IntKind.wrap .i64 ((IntKind.wrap .i64 ((IntKind.wrap .i64 ((Int.fdiv (IntKind.wrap .u64 ((IntKind.wrap .i64 (a1 + b3)))) (2 ^ (Min.min (Int.toNat 1) (IntKind.bits .u64)))))) + m2)) - start99))) ∧ ((IntKind.wrap .i64 ((IntKind.wrap .i64 ((IntKind.wrap .i64 ((Int.fdiv (IntKind.wrap .u64 ((IntKind.wrap .i64 (a1 + b3)))) (2 ^ (Min.min (Int.toNat 1) (IntKind.bits .u64)))))) + m2)) - start99)) < b3))) → Ret F fl nslices_symMergeCmpFunc_speculate_planned [data0, (.int .i64 (IntKind.wrap .i64 ((Int.fdiv (IntKind.wrap .u64 ((IntKind.wrap .i64 (a1 + b3)))) (2 ^ (Min.min (Int.toNat 1) (IntKind.bits .u64))))))), (.int .i64 (IntKind.wrap .i64 ((IntKind.wrap .i64 ((IntKind.wrap .i64 ((Int.fdiv (IntKind.wrap .u64 ((IntKind.wrap .i64 (a1 + b3)))) (2 ^ (Min.min (Int.toNat 1) (IntKind.bits .u64)))))) + m2)) - start99))), (.int .i64 b3), (.func cmpg4 cmpc5)] H118 (fun v125 H124 => v125 = .undef ∧ Q .undef H124)) ∧ (¬((((IntKind.wrap .i64 ((Int.fdiv (IntKind.wrap .u64 ((IntKind.wrap .i64 (a1 + b3)))) (2 ^ (Min.min (Int.toNat 1) (IntKind.bits .u64)))))) < (IntKind.wrap .i64 ((IntKind.wrap .i64 ((IntKind.wrap .i64 ((Int.fdiv (IntKind.wrap .u64 ((IntKind.wrap .i64 (a1 + b3)))) (2 ^ (Min.min (Int.toNat 1) (IntKind.bits .u64)))))) + m2)) - start99))) ∧ ((IntKind.wrap .i64 ((IntKind.wrap .i64 ((IntKind.wrap .i64 ((Int.fdiv (IntKind.wrap .u64 ((IntKind.wrap .i64 (a1 + b3)))) (2 ^ (Min.min (Int.toNat 1) (IntKind.bits .u64)))))) + m2)) - start99)) < b3))) → Q .undef H118)))) ∧ (¬(((start99 < m2) ∧ (m2 < (IntKind.wrap .i64 ((IntKind.wrap .i64 ((IntKind.wrap .i64 ((Int.fdiv (IntKind.wrap .u64 ((IntKind.wrap .i64 (a1 + b3)))) (2 ^ (Min.min (Int.toNat 1) (IntKind.bits .u64)))))) + m2)) - start99))))) → ((((a1 < start99) ∧ (start99 < (IntKind.wrap .i64 ((Int.fdiv (IntKind.wrap .u64 ((IntKind.wrap .i64 (a1 + b3)))) (2 ^ (Min.min (Int.toNat 1) (IntKind.bits .u64))))))))) → Ret F fl nslices_symMergeCmpFunc_speculate_planned [data0, (.int .i64 a1), (.int .i64 start99), (.int .i64 (IntKind.wrap .i64 ((Int.fdiv (IntKind.wrap .u64 ((IntKind.wrap .i64 (a1 + b3)))) (2 ^ (Min.min (Int.toNat 1) (IntKind.bits .u64))))))), (.func cmpg4 cmpc5)] H104 (fun v127 H126 => v127 = .undef ∧ (((((IntKind.wrap .i64 ((Int.fdiv (IntKind.wrap .u64 ((IntKind.wrap .i64 (a1 + b3)))) (2 ^ (Min.min (Int.toNat 1) (IntKind.bits .u64)))))) < (IntKind.wrap .i64 ((IntKind.wrap .i64 ((IntKind.wrap .i64 ((Int.fdiv (IntKind.wrap .u64 ((IntKind.wrap .i64 (a1 + b3)))) (2 ^ (Min.min (Int.toNat 1) (IntKind.bits .u64)))))) + m2)) - start99))) ∧ ((IntKind.wrap .i64 ((IntKind.wrap .i64 ((IntKind.wrap .i64 ((Int.fdiv (IntKind.wrap .u64 ((IntKind.wrap .i64 (a1 + b3)))) (2 ^ (Min.min (Int.toNat 1) (IntKind.bits .u64)))))) + m2)) - start99)) < b3))) → Ret F fl nslices_symMergeCmpFunc_speculate_planned [data0, (.int .i64 (IntKind.wrap .i64 ((Int.fdiv (IntKind.wrap .u64 ((IntKind.wrap .i64 (a1 + b3)))) (2 ^ (Min.min (Int.toNat 1) (IntKind.bits .u64))))))), (.int .i64 (IntKind.wrap .i64 ((IntKind.wrap .i64 ((IntKind.wrap .i64 ((Int.fdiv (IntKind.wrap .u64 ((IntKind.wrap .i64 (a1 + b3)))) (2 ^ (Min.min (Int.toNat 1) (IntKind.bits .u64)))))) + m2)) - start99))), (.int .i64 b3), (.func cmpg4 cmpc5)] H126 (fun v129 H128 => v129 = .undef ∧ Q .undef H128)) ∧ (¬((((IntKind.wrap .i64 ((Int.fdiv (IntKind.wrap .u64 ((IntKind.wrap .i64 (a1 + b3)))) (2 ^ (Min.min (Int.toNat 1) (IntKind.bits .u64)))))) < (IntKind.wrap .i64 ((IntKind.wrap .i64 ((IntKind.wrap .i64 ((Int.fdiv (IntKind.wrap .u64 ((IntKind.wrap .i64 (a1 + b3)))) (2 ^ (Min.min (Int.toNat 1) (IntKind.bits .u64)))))) + m2)) - start99))) ∧ ((IntKind.wrap .i64 ((IntKind.wrap .i64 ((IntKind.wrap .i64 ((Int.fdiv (IntKind.wrap .u64 ((IntKind.wrap .i64 (a1 + b3)))) (2 ^ (Min.min (Int.toNat 1) (IntKind.bits .u64)))))) + m2)) - start99)) < b3))) → Q .undef H126))) ∧ (¬(((a1 < start99) ∧ (start99 < (IntKind.wrap .i64 ((Int.fdiv (IntKind.wrap .u64 ((IntKind.wrap .i64 (a1 + b3)))) (2 ^ (Min.min (Int.toNat 1) (IntKind.bits .u64))))))))) → (((((IntKind.wrap .i64 ((Int.fdiv (IntKind.wrap .u64 ((IntKind.wrap .i64 (a1 + b3)))) (2 ^ (Min.min (Int.toNat 1) (IntKind.bits .u64)))))) < (IntKind.wrap .i64 ((IntKind.wrap .i64 ((IntKind.wrap .i64 ((Int.fdiv (IntKind.wrap .u64 ((IntKind.wrap .i64 (a1 + b3)))) (2 ^ (Min.min (Int.toNat 1) (IntKind.bits .u64)))))) + m2)) - start99))) ∧ ((IntKind.wrap .i64 ((IntKind.wrap .i64 ((IntKind.wrap .i64 ((Int.fdiv (IntKind.wrap .u64 ((IntKind.wrap .i64 (a1 + b3)))) (2 ^ (Min.min (Int.toNat 1) (IntKind.bits .u64)))))) + m2)) - start99)) < b3))) → Ret F fl nslices_symMergeCmpFunc_speculate_planned [data0, (.int .i64 (IntKind.wrap .i64 ((Int.fdiv (IntKind.wrap .u64 ((IntKind.wrap .i64 (a1 + b3)))) (2 ^ (Min.min (Int.toNat 1) (IntKind.bits .u64))))))), (.int .i64 (IntKind.wrap .i64 ((IntKind.wrap .i64 ((IntKind.wrap .i64 ((Int.fdiv (IntKind.wrap .u64 ((IntKind.wrap .i64 (a1 + b3)))) (2 ^ (Min.min (Int.toNat 1) (IntKind.bits .u64)))))) + m2)) - start99))), (.int .i64 b3), (.func cmpg4 cmpc5)] H104 (fun v131 H130 => v131 = .undef ∧ Q .undef H130)) ∧ (¬((((IntKind.wrap .i64 ((Int.fdiv (IntKind.wrap .u64 ((IntKind.wrap .i64 (a1 + b3)))) (2 ^ (Min.min (Int.toNat 1) (IntKind.bits .u64)))))) < (IntKind.wrap .i64 ((IntKind.wrap .i64 ((IntKind.wrap .i64 ((Int.fdiv (IntKind.wrap .u64 ((IntKind.wrap .i64 (a1 + b3)))) (2 ^ (Min.min (Int.toNat 1) (IntKind.bits .u64)))))) + m2)) - start99))) ∧ ((IntKind.wrap .i64 ((IntKind.wrap .i64 ((IntKind.wrap .i64 ((Int.fdiv (IntKind.wrap .u64 ((IntKind.wrap .i64 (a1 + b3)))) (2 ^ (Min.min (Int.toNat 1) (IntKind.bits .u64)))))) + m2)) - start99)) < b3))) → Q .undef H104))))))))) : Ret F fl me [data0, (.int .i64 a1), (.int .i64 m2), (.int .i64 b3), (.func cmpg4 cmpc5)] H Q := by
  refine ret_intro hF rfl ?_
  refine w_seq ?_
  refine w_seq ?_
  refine w_run [0, 0, 0, 0] ?_
  refine t_done [data0, (.int .i64 a1), (.int .i64 m2), (.int .i64 b3), (.func cmpg4 cmpc5), (.bool (((IntKind.wrap .i64 (m2 - a1))) == 1)), .undef, .undef, .undef, .undef, .undef, .undef, .undef, .undef, .undef, .undef, .undef, .undef, .undef, .undef, .undef, .undef, .undef, .undef, .undef, .undef, .undef, .undef, .undef, .undef, .undef, .undef, .undef, .undef] H (by kernel_rfl) ?_
  refine then_norm ?_
  refine w_cond (t := (((IntKind.wrap .i64 (m2 - a1))) == 1)) rfl (fun hc => ?_) (fun hc => ?_)
  · replace h := h.1 (is_eq.t hc)
    refine w_seq ?_
    refine w_run [0, 0] ?_
    refine t_done [data0, (.int .i64 a1), (.int .i64 m2), (.int .i64 b3), (.func cmpg4 cmpc5), (.bool (((IntKind.wrap .i64 (m2 - a1))) == 1)), (.int .i64 m2), .undef, .undef, .undef, .undef, .undef, .undef, .undef, .undef, .undef, .undef, .undef, .undef, .undef, .undef, .undef, .undef, .undef, .undef, .undef, .undef, .undef, .undef, .undef, .undef, .undef, .undef, .undef] H (by kernel_rfl) ?_
    refine then_norm ?_
    refine w_seq ?_
    refine w_run [0, 0] ?_
    refine t_done [data0, (.int .i64 a1), (.int .i64 m2), (.int .i64 b3), (.func cmpg4 cmpc5), (.bool (((IntKind.wrap .i64 (m2 - a1))) == 1)), (.int .i64 m2), (.int .i64 b3), .undef, .undef, .undef, .undef, .undef, .undef, .undef, .undef, .undef, .undef, .undef, .undef, .undef, .undef, .undef, .undef, .undef, .undef, .undef, .undef, .undef, .undef, .undef, .undef, .undef, .undef] H (by kernel_rfl) ?_
    refine then_norm ?_
    refine w_seq ?_
    refine w_block ?_
    obtain ⟨J6, k7, h0, h⟩ := h
    refine w_loop (I := fun mI EI HI => ∃ (i9 : Int) (j10 : Int) (d11 : AV) (d12 : AV) (d13 : AV), EI = [data0, (.int .i64 a1), (.int .i64 m2), (.int .i64 b3), (.func cmpg4 cmpc5), (.bool (((IntKind.wrap .i64 (m2 - a1))) == 1)), (.int .i64 i9), (.int .i64 j10), d11, d12, d13, .undef, .undef, .undef, .undef, .undef, .undef, .undef, .undef, .undef, .undef, .undef, .undef, .undef, .undef, .undef, .undef, .undef, .undef, .undef, .undef, .undef, .undef, .undef] ∧ J6 mI i9 j10 HI) ?_ k7 ⟨_, _, _, _, _, rfl, h0⟩
    clear h0
    rintro m8 EI H14 ⟨i9, j10, d11, d12, d13, rfl, hJ⟩
    replace h := h m8 i9 j10 H14 hJ
    clear hJ
    refine w_seq ?_
    refine w_seq ?_
    refine w_run [0, 0, 0] ?_
    refine t_done [data0, (.int .i64 a1), (.int .i64 m2), (.int .i64 b3), (.func cmpg4 cmpc5), (.bool (((IntKind.wrap .i64 (m2 - a1))) == 1)), (.int .i64 i9), (.int .i64 j10), (.bool (decide (i9 < j10))), d12, d13, .undef, .undef, .undef, .undef, .undef, .undef, .undef, .undef, .undef, .undef, .undef, .undef, .undef, .undef, .undef, .undef, .undef, .undef, .undef, .undef, .undef, .undef, .undef] H14 (by kernel_rfl) ?_
    refine then_norm ?_
    refine w_cond (t := (decide (i9 < j10))) rfl (fun hc => ?_) (fun hc => ?_)
    · replace h := h.1 (is_dec.t hc)
      refine w_skip ?_
      refine then_norm ?_
      refine w_block ?_
      refine w_seq ?_
      refine w_run [0, 0, 0, 0, 1, 0, 0] ?_
      refine t_shr true .no .u64 .u64 (IntKind.wrap .u64 ((IntKind.wrap .i64 (i9 + j10)))) 1 H14 (by kernel_rfl) (by decide) ?_
      refine t_done [data0, (.int .i64 a1), (.int .i64 m2), (.int .i64 b3), (.func cmpg4 cmpc5), (.bool (((IntKind.wrap .i64 (m2 - a1))) == 1)), (.int .i64 i9), (.int .i64 j10), (.bool (decide (i9 < j10))), (.int .i64 (IntKind.wrap .i64 ((Int.fdiv (IntKind.wrap .u64 ((IntKind.wrap .i64 (i9 + j10)))) (2 ^ (Min.min (Int.toNat 1) (IntKind.bits .u64))))))), d13, .undef, .undef, .undef, .undef, .undef, .undef, .undef, .undef, .undef, .undef, .undef, .undef, .undef, .undef, .undef, .undef, .undef, .undef, .undef, .undef, .undef, .undef, .undef] H14 (by kernel_rfl) ?_
      refine then_norm ?_
      refine w_seq ?_
      refine w_run [0, 0, 0, 1, 1, 0, 0, 1, 1, 1, 0] ?_
      obtain ⟨e15, e16, e17, hg18, h⟩ := h
      refine t_idxG false 3 data0 .i64 (IntKind.wrap .i64 ((Int.fdiv (IntKind.wrap .u64 ((IntKind.wrap .i64 (i9 + j10)))) (2 ^ (Min.min (Int.toNat 1) (IntKind.bits .u64)))))) H14 (by kernel_rfl) hg18 ?_
      refine t_loadG false (some 3) 3 data0 (IntKind.wrap .i64 ((Int.fdiv (IntKind.wrap .u64 ((IntKind.wrap .i64 (i9 + j10)))) (2 ^ (Min.min (Int.toNat 1) (IntKind.bits .u64)))))) 0 (.agg [(.int .i64 e15), e16, (.int .i64 e17)]) H14 (by kernel_rfl) hg18 ?_
      obtain ⟨e19, e20, e21, hg22, h⟩ := h
      refine t_idxG false 3 data0 .i64 a1 H14 (by kernel_rfl) hg22 ?_
      refine t_loadG false (some 3) 3 data0 a1 0 (.agg [(.int .i64 e19), e20, (.int .i64 e21)]) H14 (by kernel_rfl) hg22 ?_
      refine t_call true cmpg4 (([(.agg [(.int .i64 e15), e16, (.int .i64 e17)]), (.agg [(.int .i64 e19), e20, (.int .i64 e21)])] : List AV) ++ cmpc5) H14 (by kernel_rfl) h ?_
      clear h
      rintro _ H24 ⟨r23, rfl, h⟩
      refine t_done [data0, (.int .i64 a1), (.int .i64 m2), (.int .i64 b3), (.func cmpg4 cmpc5), (.bool (((IntKind.wrap .i64 (m2 - a1))) == 1)), (.int .i64 i9), (.int .i64 j10), (.bool (decide (i9 < j10))), (.int .i64 (IntKind.wrap .i64 ((Int.fdiv (IntKind.wrap .u64 ((IntKind.wrap .i64 (i9 + j10)))) (2 ^ (Min.min (Int.toNat 1) (IntKind.bits .u64))))))), (.bool (decide (r23 < 0))), .undef, .undef, .undef, .undef, .undef, .undef, .undef, .undef, .undef, .undef, .undef, .undef, .undef, .undef, .undef, .undef, .undef, .undef, .undef, .undef, .undef, .undef, .undef] H24 (by kernel_rfl) ?_
      refine then_norm ?_
      refine w_cond (t := (decide (r23 < 0))) rfl (fun hc => ?_) (fun hc => ?_)
      · replace h := h.1 (is_dec.t hc)
        refine w_run [0, 0, 0] ?_
        refine t_done [data0, (.int .i64 a1), (.int .i64 m2), (.int .i64 b3), (.func cmpg4 cmpc5), (.bool (((IntKind.wrap .i64 (m2 - a1))) == 1)), (.int .i64 (IntKind.wrap .i64 ((IntKind.wrap .i64 ((Int.fdiv (IntKind.wrap .u64 ((IntKind.wrap .i64 (i9 + j10)))) (2 ^ (Min.min (Int.toNat 1) (IntKind.bits .u64)))))) + 1))), (.int .i64 j10), (.bool (decide (i9 < j10))), (.int .i64 (IntKind.wrap .i64 ((Int.fdiv (IntKind.wrap .u64 ((IntKind.wrap .i64 (i9 + j10)))) (2 ^ (Min.min (Int.toNat 1) (IntKind.bits .u64))))))), (.bool (decide (r23 < 0))), .undef, .undef, .undef, .undef, .undef, .undef, .undef, .undef, .undef, .undef, .undef, .undef, .undef, .undef, .undef, .undef, .undef, .undef, .undef, .undef, .undef, .undef, .undef] H24 (by kernel_rfl) ?_
        refine block_norm ?_
        obtain ⟨m', hm, h⟩ := h
        refine loop_norm ⟨m', hm, _, _, _, _, _, rfl, h⟩
      · replace h := h.2 (is_dec.f hc)
        refine w_run [0, 0] ?_
        refine t_done [data0, (.int .i64 a1), (.int .i64 m2), (.int .i64 b3), (.func cmpg4 cmpc5), (.bool (((IntKind.wrap .i64 (m2 - a1))) == 1)), (.int .i64 i9), (.int .i64 (IntKind.wrap .i64 ((Int.fdiv (IntKind.wrap .u64 ((IntKind.wrap .i64 (i9 + j10)))) (2 ^ (Min.min (Int.toNat 1) (IntKind.bits .u64))))))), (.bool (decide (i9 < j10))), (.int .i64 (IntKind.wrap .i64 ((Int.fdiv (IntKind.wrap .u64 ((IntKind.wrap .i64 (i9 + j10)))) (2 ^ (Min.min (Int.toNat 1) (IntKind.bits .u64))))))), (.bool (decide (r23 < 0))), .undef, .undef, .undef, .undef, .undef, .undef, .undef, .undef, .undef, .undef, .undef, .undef, .undef, .undef, .undef, .undef, .undef, .undef, .undef, .undef, .undef, .undef, .undef] H24 (by kernel_rfl) ?_
        refine block_norm ?_
        obtain ⟨m', hm, h⟩ := h
        refine loop_norm ⟨m', hm, _, _, _, _, _, rfl, h⟩
    · replace h := h.2 (is_dec.f hc)
      refine w_exit ?_
      refine then_exit ?_
      refine loop_exit ?_
      refine block_exit ?_
      refine then_norm ?_
      refine w_seq ?_
      refine w_seq ?_
      refine w_run [0, 0] ?_
      refine t_done [data0, (.int .i64 a1), (.int .i64 m2), (.int .i64 b3), (.func cmpg4 cmpc5), (.bool (((IntKind.wrap .i64 (m2 - a1))) == 1)), (.int .i64 i9), (.int .i64 j10), (.bool (decide (i9 < j10))), d12, d13, (.int .i64 a1), .undef, .undef, .undef, .undef, .undef, .undef, .undef, .undef, .undef, .undef, .undef, .undef, .undef, .undef, .undef, .undef, .undef, .undef, .undef, .undef, .undef, .undef] H14 (by kernel_rfl) ?_
      refine then_norm ?_
      refine w_block ?_
      obtain ⟨J28, k29, h0, h⟩ := h
      refine w_loop (I := fun mI EI HI => ∃ (k31 : Int) (d32 : AV), EI = [data0, (.int .i64 a1), (.int .i64 m2), (.int .i64 b3), (.func cmpg4 cmpc5), (.bool (((IntKind.wrap .i64 (m2 - a1))) == 1)), (.int .i64 i9), (.int .i64 j10), (.bool (decide (i9 < j10))), d12, d13, (.int .i64 k31), d32, .undef, .undef, .undef, .undef, .undef, .undef, .undef, .undef, .undef, .undef, .undef, .undef, .undef, .undef, .undef, .undef, .undef, .undef, .undef, .undef, .undef] ∧ J28 mI k31 HI) ?_ k29 ⟨_, _, rfl, h0⟩
      clear h0
      rintro m30 EI H33 ⟨k31, d32, rfl, hJ⟩
      replace h := h m30 k31 H33 hJ
      clear hJ
      refine w_seq ?_
      refine w_seq ?_
      refine w_run [0, 0, 0, 0] ?_
      refine t_done [data0, (.int .i64 a1), (.int .i64 m2), (.int .i64 b3), (.func cmpg4 cmpc5), (.bool (((IntKind.wrap .i64 (m2 - a1))) == 1)), (.int .i64 i9), (.int .i64 j10), (.bool (decide (i9 < j10))), d12, d13, (.int .i64 k31), (.bool (decide (k31 < (IntKind.wrap .i64 (i9 - 1))))), .undef, .undef, .undef, .undef, .undef, .undef, .undef, .undef, .undef, .undef, .undef, .undef, .undef, .undef, .undef, .undef, .undef, .undef, .undef, .undef, .undef] H33 (by kernel_rfl) ?_
      refine then_norm ?_
      refine w_cond (t := (decide (k31 < (IntKind.wrap .i64 (i9 - 1))))) rfl (fun hc => ?_) (fun hc => ?_)
      · replace h := h.1 (is_dec.t hc)
        refine w_skip ?_
        refine then_norm ?_
        refine w_seq ?_
        refine w_block ?_
        refine w_run [0, 0, 0, 0, 0, 0, 0, 0, 1, 1, 0, 0, 1, 1, 1, 1, 1, 1] ?_
        obtain ⟨e34, e35, e36, hg37, h⟩ := h
        refine t_idxG false 3 data0 .i64 (IntKind.wrap .i64 (k31 + 1)) H33 (by kernel_rfl) hg37 ?_
        refine t_loadG false (some 3) 3 data0 (IntKind.wrap .i64 (k31 + 1)) 0 (.agg [(.int .i64 e34), e35, (.int .i64 e36)]) H33 (by kernel_rfl) hg37 ?_
        obtain ⟨e38, e39, e40, hg41, h⟩ := h
        refine t_idxG false 3 data0 .i64 k31 H33 (by kernel_rfl) hg41 ?_
        refine t_loadG false (some 3) 3 data0 k31 0 (.agg [(.int .i64 e38), e39, (.int .i64 e40)]) H33 (by kernel_rfl) hg41 ?_
        obtain ⟨b42, o43, hp, h⟩ := h
        refine t_idx true 3 data0 .i64 k31 b42 o43 H33 (by kernel_rfl) hp ?_
        obtain ⟨H44, hp, h⟩ := h
        refine t_store true 3 b42 o43 (.agg [(.int .i64 e34), e35, (.int .i64 e36)]) H44 H33 (by kernel_rfl) hp ?_
        obtain ⟨b45, o46, hp, h⟩ := h
        refine t_idx true 3 data0 .i64 (IntKind.wrap .i64 (k31 + 1)) b45 o46 H44 (by kernel_rfl) hp ?_
        obtain ⟨H47, hp, h⟩ := h
        refine t_store true 3 b45 o46 (.agg [(.int .i64 e38), e39, (.int .i64 e40)]) H47 H44 (by kernel_rfl) hp ?_
        refine t_done [data0, (.int .i64 a1), (.int .i64 m2), (.int .i64 b3), (.func cmpg4 cmpc5), (.bool (((IntKind.wrap .i64 (m2 - a1))) == 1)), (.int .i64 i9), (.int .i64 j10), (.bool (decide (i9 < j10))), d12, d13, (.int .i64 k31), (.bool (decide (k31 < (IntKind.wrap .i64 (i9 - 1))))), .undef, .undef, .undef, .undef, .undef, .undef, .undef, .undef, .undef, .undef, .undef, .undef, .undef, .undef, .undef, .undef, .undef, .undef, .undef, .undef, .undef] H47 (by kernel_rfl) ?_
        refine block_norm ?_
        refine then_norm ?_
        refine w_run [0, 0, 0] ?_
        refine t_done [data0, (.int .i64 a1), (.int .i64 m2), (.int .i64 b3), (.func cmpg4 cmpc5), (.bool (((IntKind.wrap .i64 (m2 - a1))) == 1)), (.int .i64 i9), (.int .i64 j10), (.bool (decide (i9 < j10))), d12, d13, (.int .i64 (IntKind.wrap .i64 (k31 + 1))), (.bool (decide (k31 < (IntKind.wrap .i64 (i9 - 1))))), .undef, .undef, .undef, .undef, .undef, .undef, .undef, .undef, .undef, .undef, .undef, .undef, .undef, .undef, .undef, .undef, .undef, .undef, .undef, .undef, .undef] H47 (by kernel_rfl) ?_
        obtain ⟨m', hm, h⟩ := h
        refine loop_norm ⟨m', hm, _, _, rfl, h⟩
      · replace h := h.2 (is_dec.f hc)
        refine w_exit ?_
        refine then_exit ?_
        refine loop_exit ?_
        refine block_exit ?_
        refine then_norm ?_
        refine w_ret ?_
        refine then_ret ?_
        exact body_ret (vs := []) _ (by kernel_rfl) rfl h
  · replace h := h.2 (is_eq.f hc)
    refine w_skip ?_
    refine then_norm ?_
    refine w_seq ?_
    refine w_seq ?_
    refine w_run [0, 0, 0, 0] ?_
    refine t_done [data0, (.int .i64 a1), (.int .i64 m2), (.int .i64 b3), (.func cmpg4 cmpc5), (.bool (((IntKind.wrap .i64 (m2 - a1))) == 1)), .undef, .undef, .undef, .undef, .undef, .undef, .undef, (.bool (((IntKind.wrap .i64 (b3 - m2))) == 1)), .undef, .undef, .undef, .undef, .undef, .undef, .undef, .undef, .undef, .undef, .undef, .undef, .undef, .undef, .undef, .undef, .undef, .undef, .undef, .undef] H (by kernel_rfl) ?_
    refine then_norm ?_
    refine w_cond (t := (((IntKind.wrap .i64 (b3 - m2))) == 1)) rfl (fun hc => ?_) (fun hc => ?_)
    · replace h := h.1 (is_eq.t hc)
      refine w_seq ?_
      refine w_run [0, 0] ?_
      refine t_done [data0, (.int .i64 a1), (.int .i64 m2), (.int .i64 b3), (.func cmpg4 cmpc5), (.bool (((IntKind.wrap .i64 (m2 - a1))) == 1)), .undef, .undef, .undef, .undef, .undef, .undef, .undef, (.bool (((IntKind.wrap .i64 (b3 - m2))) == 1)), (.int .i64 a1), .undef, .undef, .undef, .undef, .undef, .undef, .undef, .undef, .undef, .undef, .undef, .undef, .undef, .undef, .undef, .undef, .undef, .undef, .undef] H (by kernel_rfl) ?_
      refine then_norm ?_
      refine w_seq ?_
      refine w_run [0, 0] ?_
      refine t_done [data0, (.int .i64 a1), (.int .i64 m2), (.int .i64 b3), (.func cmpg4 cmpc5), (.bool (((IntKind.wrap .i64 (m2 - a1))) == 1)), .undef, .undef, .undef, .undef, .undef, .undef, .undef, (.bool (((IntKind.wrap .i64 (b3 - m2))) == 1)), (.int .i64 a1), (.int .i64 m2), .undef, .undef, .undef, .undef, .undef, .undef, .undef, .undef, .undef, .undef, .undef, .undef, .undef, .undef, .undef, .undef, .undef, .undef] H (by kernel_rfl) ?_
      refine then_norm ?_
      refine w_seq ?_
      refine w_block ?_
      obtain ⟨J49, k50, h0, h⟩ := h
      refine w_loop (I := fun mI EI HI => ∃ (i52 : Int) (j53 : Int) (d54 : AV) (d55 : AV) (d56 : AV), EI = [data0, (.int .i64 a1), (.int .i64 m2), (.int .i64 b3), (.func cmpg4 cmpc5), (.bool (((IntKind.wrap .i64 (m2 - a1))) == 1)), .undef, .undef, .undef, .undef, .undef, .undef, .undef, (.bool (((IntKind.wrap .i64 (b3 - m2))) == 1)), (.int .i64 i52), (.int .i64 j53), d54, d55, d56, .undef, .undef, .undef, .undef, .undef, .undef, .undef, .undef, .undef, .undef, .undef, .undef, .undef, .undef, .undef] ∧ J49 mI i52 j53 HI) ?_ k50 ⟨_, _, _, _, _, rfl, h0⟩
      clear h0
      rintro m51 EI H57 ⟨i52, j53, d54, d55, d56, rfl, hJ⟩
      replace h := h m51 i52 j53 H57 hJ
      clear hJ
      refine w_seq ?_
      refine w_seq ?_
      refine w_run [0, 0, 0] ?_
      refine t_done [data0, (.int .i64 a1), (.int .i64 m2), (.int .i64 b3), (.func cmpg4 cmpc5), (.bool (((IntKind.wrap .i64 (m2 - a1))) == 1)), .undef, .undef, .undef, .undef, .undef, .undef, .undef, (.bool (((IntKind.wrap .i64 (b3 - m2))) == 1)), (.int .i64 i52), (.int .i64 j53), (.bool (decide (i52 < j53))), d55, d56, .undef, .undef, .undef, .undef, .undef, .undef, .undef, .undef, .undef, .undef, .undef, .undef, .undef, .undef, .undef] H57 (by kernel_rfl) ?_
      refine then_norm ?_
      refine w_cond (t := (decide (i52 < j53))) rfl (fun hc => ?_) (fun hc => ?_)
      · replace h := h.1 (is_dec.t hc)
        refine w_skip ?_
        refine then_norm ?_
        refine w_block ?_
        refine w_seq ?_
        refine w_run [0, 0, 0, 0, 1, 0, 0] ?_
        refine t_shr true .no .u64 .u64 (IntKind.wrap .u64 ((IntKind.wrap .i64 (i52 + j53)))) 1 H57 (by kernel_rfl) (by decide) ?_
        refine t_done [data0, (.int .i64 a1), (.int .i64 m2), (.int .i64 b3), (.func cmpg4 cmpc5), (.bool (((IntKind.wrap .i64 (m2 - a1))) == 1)), .undef, .undef, .undef, .undef, .undef, .undef, .undef, (.bool (((IntKind.wrap .i64 (b3 - m2))) == 1)), (.int .i64 i52), (.int .i64 j53), (.bool (decide (i52 < j53))), (.int .i64 (IntKind.wrap .i64 ((Int.fdiv (IntKind.wrap .u64 ((IntKind.wrap .i64 (i52 + j53)))) (2 ^ (Min.min (Int.toNat 1) (IntKind.bits .u64))))))), d56, .undef, .undef, .undef, .undef, .undef, .undef, .undef, .undef, .undef, .undef, .undef, .undef, .undef, .undef, .undef] H57 (by kernel_rfl) ?_
        refine then_norm ?_
        refine w_seq ?_
        refine w_run [0, 0, 0, 1, 1, 0, 0, 1, 1, 1, 0, 0] ?_
        obtain ⟨e58, e59, e60, hg61, h⟩ := h
        refine t_idxG false 3 data0 .i64 m2 H57 (by kernel_rfl) hg61 ?_
        refine t_loadG false (some 3) 3 data0 m2 0 (.agg [(.int .i64 e58), e59, (.int .i64 e60)]) H57 (by kernel_rfl) hg61 ?_
        obtain ⟨e62, e63, e64, hg65, h⟩ := h
        refine t_idxG false 3 data0 .i64 (IntKind.wrap .i64 ((Int.fdiv (IntKind.wrap .u64 ((IntKind.wrap .i64 (i52 + j53)))) (2 ^ (Min.min (Int.toNat 1) (IntKind.bits .u64)))))) H57 (by kernel_rfl) hg65 ?_
        refine t_loadG false (some 3) 3 data0 (IntKind.wrap .i64 ((Int.fdiv (IntKind.wrap .u64 ((IntKind.wrap .i64 (i52 + j53)))) (2 ^ (Min.min (Int.toNat 1) (IntKind.bits .u64)))))) 0 (.agg [(.int .i64 e62), e63, (.int .i64 e64)]) H57 (by kernel_rfl) hg65 ?_
        refine t_call true cmpg4 (([(.agg [(.int .i64 e58), e59, (.int .i64 e60)]), (.agg [(.int .i64 e62), e63, (.int .i64 e64)])] : List AV) ++ cmpc5) H57 (by kernel_rfl) h ?_
        clear h
        rintro _ H67 ⟨r66, rfl, h⟩
        refine t_done [data0, (.int .i64 a1), (.int .i64 m2), (.int .i64 b3), (.func cmpg4 cmpc5), (.bool (((IntKind.wrap .i64 (m2 - a1))) == 1)), .undef, .undef, .undef, .undef, .undef, .undef, .undef, (.bool (((IntKind.wrap .i64 (b3 - m2))) == 1)), (.int .i64 i52), (.int .i64 j53), (.bool (decide (i52 < j53))), (.int .i64 (IntKind.wrap .i64 ((Int.fdiv (IntKind.wrap .u64 ((IntKind.wrap .i64 (i52 + j53)))) (2 ^ (Min.min (Int.toNat 1) (IntKind.bits .u64))))))), (.bool (!(decide (r66 < 0)))), .undef, .undef, .undef, .undef, .undef, .undef, .undef, .undef, .undef, .undef, .undef, .undef, .undef, .undef, .undef] H67 (by kernel_rfl) ?_
        refine then_norm ?_
        refine w_cond (t := (!(decide (r66 < 0)))) rfl (fun hc => ?_) (fun hc => ?_)
        · replace h := h.1 ((is_not is_dec).t hc)
          refine w_run [0, 0, 0] ?_
          refine t_done [data0, (.int .i64 a1), (.int .i64 m2), (.int .i64 b3), (.func cmpg4 cmpc5), (.bool (((IntKind.wrap .i64 (m2 - a1))) == 1)), .undef, .undef, .undef, .undef, .undef, .undef, .undef, (.bool (((IntKind.wrap .i64 (b3 - m2))) == 1)), (.int .i64 (IntKind.wrap .i64 ((IntKind.wrap .i64 ((Int.fdiv (IntKind.wrap .u64 ((IntKind.wrap .i64 (i52 + j53)))) (2 ^ (Min.min (Int.toNat 1) (IntKind.bits .u64)))))) + 1))), (.int .i64 j53), (.bool (decide (i52 < j53))), (.int .i64 (IntKind.wrap .i64 ((Int.fdiv (IntKind.wrap .u64 ((IntKind.wrap .i64 (i52 + j53)))) (2 ^ (Min.min (Int.toNat 1) (IntKind.bits .u64))))))), (.bool (!(decide (r66 < 0)))), .undef, .undef, .undef, .undef, .undef, .undef, .undef, .undef, .undef, .undef, .undef, .undef, .undef, .undef, .undef] H67 (by kernel_rfl) ?_
          refine block_norm ?_
          obtain ⟨m', hm, h⟩ := h
          refine loop_norm ⟨m', hm, _, _, _, _, _, rfl, h⟩
        · replace h := h.2 ((is_not is_dec).f hc)
          refine w_run [0, 0] ?_
          refine t_done [data0, (.int .i64 a1), (.int .i64 m2), (.int .i64 b3), (.func cmpg4 cmpc5), (.bool (((IntKind.wrap .i64 (m2 - a1))) == 1)), .undef, .undef, .undef, .undef, .undef, .undef, .undef, (.bool (((IntKind.wrap .i64 (b3 - m2))) == 1)), (.int .i64 i52), (.int .i64 (IntKind.wrap .i64 ((Int.fdiv (IntKind.wrap .u64 ((IntKind.wrap .i64 (i52 + j53)))) (2 ^ (Min.min (Int.toNat 1) (IntKind.bits .u64))))))), (.bool (decide (i52 < j53))), (.int .i64 (IntKind.wrap .i64 ((Int.fdiv (IntKind.wrap .u64 ((IntKind.wrap .i64 (i52 + j53)))) (2 ^ (Min.min (Int.toNat 1) (IntKind.bits .u64))))))), (.bool (!(decide (r66 < 0)))), .undef, .undef, .undef, .undef, .undef, .undef, .undef, .undef, .undef, .undef, .undef, .undef, .undef, .undef, .undef] H67 (by kernel_rfl) ?_
          refine block_norm ?_
          obtain ⟨m', hm, h⟩ := h
          refine loop_norm ⟨m', hm, _, _, _, _, _, rfl, h⟩
      · replace h := h.2 (is_dec.f hc)
        refine w_exit ?_
        refine then_exit ?_
        refine loop_exit ?_
        refine block_exit ?_
        refine then_norm ?_
        refine w_seq ?_
        refine w_seq ?_
        refine w_run [0, 0] ?_
        refine t_done [data0, (.int .i64 a1), (.int .i64 m2), (.int .i64 b3), (.func cmpg4 cmpc5), (.bool (((IntKind.wrap .i64 (m2 - a1))) == 1)), .undef, .undef, .undef, .undef, .undef, .undef, .undef, (.bool (((IntKind.wrap .i64 (b3 - m2))) == 1)), (.int .i64 i52), (.int .i64 j53), (.bool (decide (i52 < j53))), d55, d56, (.int .i64 m2), .undef, .undef, .undef, .undef, .undef, .undef, .undef, .undef, .undef, .undef, .undef, .undef, .undef, .undef] H57 (by kernel_rfl) ?_
        refine then_norm ?_
        refine w_block ?_
        obtain ⟨J71, k72, h0, h⟩ := h
        refine w_loop (I := fun mI EI HI => ∃ (k74 : Int) (d75 : AV), EI = [data0, (.int .i64 a1), (.int .i64 m2), (.int .i64 b3), (.func cmpg4 cmpc5), (.bool (((IntKind.wrap .i64 (m2 - a1))) == 1)), .undef, .undef, .undef, .undef, .undef, .undef, .undef, (.bool (((IntKind.wrap .i64 (b3 - m2))) == 1)), (.int .i64 i52), (.int .i64 j53), (.bool (decide (i52 < j53))), d55, d56, (.int .i64 k74), d75, .undef, .undef, .undef, .undef, .undef, .undef, .undef, .undef, .undef, .undef, .undef, .undef, .undef] ∧ J71 mI k74 HI) ?_ k72 ⟨_, _, rfl, h0⟩
        clear h0
        rintro m73 EI H76 ⟨k74, d75, rfl, hJ⟩
        replace h := h m73 k74 H76 hJ
        clear hJ
        refine w_seq ?_
        refine w_seq ?_
        refine w_run [0, 0, 0] ?_
        refine t_done [data0, (.int .i64 a1), (.int .i64 m2), (.int .i64 b3), (.func cmpg4 cmpc5), (.bool (((IntKind.wrap .i64 (m2 - a1))) == 1)), .undef, .undef, .undef, .undef, .undef, .undef, .undef, (.bool (((IntKind.wrap .i64 (b3 - m2))) == 1)), (.int .i64 i52), (.int .i64 j53), (.bool (decide (i52 < j53))), d55, d56, (.int .i64 k74), (.bool (decide (k74 > i52))), .undef, .undef, .undef, .undef, .undef, .undef, .undef, .undef, .undef, .undef, .undef, .undef, .undef] H76 (by kernel_rfl) ?_
        refine then_norm ?_
        refine w_cond (t := (decide (k74 > i52))) rfl (fun hc => ?_) (fun hc => ?_)
        · replace h := h.1 (is_dec.t hc)
          refine w_skip ?_
          refine then_norm ?_
          refine w_seq ?_
          refine w_block ?_
          refine w_run [0, 0, 0, 0, 0, 0, 0, 0, 1, 1, 0, 0, 1, 1, 1, 1, 1, 1] ?_
          obtain ⟨e77, e78, e79, hg80, h⟩ := h
          refine t_idxG false 3 data0 .i64 (IntKind.wrap .i64 (k74 - 1)) H76 (by kernel_rfl) hg80 ?_
          refine t_loadG false (some 3) 3 data0 (IntKind.wrap .i64 (k74 - 1)) 0 (.agg [(.int .i64 e77), e78, (.int .i64 e79)]) H76 (by kernel_rfl) hg80 ?_
          obtain ⟨e81, e82, e83, hg84, h⟩ := h
          refine t_idxG false 3 data0 .i64 k74 H76 (by kernel_rfl) hg84 ?_
          refine t_loadG false (some 3) 3 data0 k74 0 (.agg [(.int .i64 e81), e82, (.int .i64 e83)]) H76 (by kernel_rfl) hg84 ?_
          obtain ⟨b85, o86, hp, h⟩ := h
          refine t_idx true 3 data0 .i64 k74 b85 o86 H76 (by kernel_rfl) hp ?_
          obtain ⟨H87, hp, h⟩ := h
          refine t_store true 3 b85 o86 (.agg [(.int .i64 e77), e78, (.int .i64 e79)]) H87 H76 (by kernel_rfl) hp ?_
          obtain ⟨b88, o89, hp, h⟩ := h
          refine t_idx true 3 data0 .i64 (IntKind.wrap .i64 (k74 - 1)) b88 o89 H87 (by kernel_rfl) hp ?_
          obtain ⟨H90, hp, h⟩ := h
          refine t_store true 3 b88 o89 (.agg [(.int .i64 e81), e82, (.int .i64 e83)]) H90 H87 (by kernel_rfl) hp ?_
          refine t_done [data0, (.int .i64 a1), (.int .i64 m2), (.int .i64 b3), (.func cmpg4 cmpc5), (.bool (((IntKind.wrap .i64 (m2 - a1))) == 1)), .undef, .undef, .undef, .undef, .undef, .undef, .undef, (.bool (((IntKind.wrap .i64 (b3 - m2))) == 1)), (.int .i64 i52), (.int .i64 j53), (.bool (decide (i52 < j53))), d55, d56, (.int .i64 k74), (.bool (decide (k74 > i52))), .undef, .undef, .undef, .undef, .undef, .undef, .undef, .undef, .undef, .undef, .undef, .undef, .undef] H90 (by kernel_rfl) ?_
          refine block_norm ?_
          refine then_norm ?_
          refine w_run [0, 0, 0] ?_
          refine t_done [data0, (.int .i64 a1), (.int .i64 m2), (.int .i64 b3), (.func cmpg4 cmpc5), (.bool (((IntKind.wrap .i64 (m2 - a1))) == 1)), .undef, .undef, .undef, .undef, .undef, .undef, .undef, (.bool (((IntKind.wrap .i64 (b3 - m2))) == 1)), (.int .i64 i52), (.int .i64 j53), (.bool (decide (i52 < j53))), d55, d56, (.int .i64 (IntKind.wrap .i64 (k74 - 1))), (.bool (decide (k74 > i52))), .undef, .undef, .undef, .undef, .undef, .undef, .undef, .undef, .undef, .undef, .undef, .undef, .undef] H90 (by kernel_rfl) ?_
          obtain ⟨m', hm, h⟩ := h
          refine loop_norm ⟨m', hm, _, _, rfl, h⟩
        · replace h := h.2 (is_dec.f hc)
          refine w_exit ?_
          refine then_exit ?_
          refine loop_exit ?_
          refine block_exit ?_
          refine then_norm ?_
          refine w_ret ?_
          refine then_ret ?_
          exact body_ret (vs := []) _ (by kernel_rfl) rfl h
    · replace h := h.2 (is_eq.f hc)
      refine w_skip ?_
      refine then_norm ?_
      refine w_seq ?_
      refine w_run [0, 0, 0, 0, 1, 0, 0] ?_
      refine t_shr true .no .u64 .u64 (IntKind.wrap .u64 ((IntKind.wrap .i64 (a1 + b3)))) 1 H (by kernel_rfl) (by decide) ?_
      refine t_done [data0, (.int .i64 a1), (.int .i64 m2), (.int .i64 b3), (.func cmpg4 cmpc5), (.bool (((IntKind.wrap .i64 (m2 - a1))) == 1)), .undef, .undef, .undef, .undef, .undef, .undef, .undef, (.bool (((IntKind.wrap .i64 (b3 - m2))) == 1)), .undef, .undef, .undef, .undef, .undef, .undef, .undef, (.int .i64 (IntKind.wrap .i64 ((Int.fdiv (IntKind.wrap .u64 ((IntKind.wrap .i64 (a1 + b3)))) (2 ^ (Min.min (Int.toNat 1) (IntKind.bits .u64))))))), .undef, .undef, .undef, .undef, .undef, .undef, .undef, .undef, .undef, .undef, .undef, .undef] H (by kernel_rfl) ?_
      refine then_norm ?_
      refine w_seq ?_
      refine w_run [0, 0, 0, 0] ?_
      refine t_done [data0, (.int .i64 a1), (.int .i64 m2), (.int .i64 b3), (.func cmpg4 cmpc5), (.bool (((IntKind.wrap .i64 (m2 - a1))) == 1)), .undef, .undef, .undef, .undef, .undef, .undef, .undef, (.bool (((IntKind.wrap .i64 (b3 - m2))) == 1)), .undef, .undef, .undef, .undef, .undef, .undef, .undef, (.int .i64 (IntKind.wrap .i64 ((Int.fdiv (IntKind.wrap .u64 ((IntKind.wrap .i64 (a1 + b3)))) (2 ^ (Min.min (Int.toNat 1) (IntKind.bits .u64))))))), .undef, (.int .i64 (IntKind.wrap .i64 ((IntKind.wrap .i64 ((Int.fdiv (IntKind.wrap .u64 ((IntKind.wrap .i64 (a1 + b3)))) (2 ^ (Min.min (Int.toNat 1) (IntKind.bits .u64)))))) + m2))), .undef, .undef, .undef, .undef, .undef, .undef, .undef, .undef, .undef, .undef] H (by kernel_rfl) ?_
      refine then_norm ?_
      refine w_seq ?_
      refine w_run [0, 0] ?_
      refine t_done [data0, (.int .i64 a1), (.int .i64 m2), (.int .i64 b3), (.func cmpg4 cmpc5), (.bool (((IntKind.wrap .i64 (m2 - a1))) == 1)), .undef, .undef, .undef, .undef, .undef, .undef, .undef, (.bool (((IntKind.wrap .i64 (b3 - m2))) == 1)), .undef, .undef, .undef, .undef, .undef, .undef, .undef, (.int .i64 (IntKind.wrap .i64 ((Int.fdiv (IntKind.wrap .u64 ((IntKind.wrap .i64 (a1 + b3)))) (2 ^ (Min.min (Int.toNat 1) (IntKind.bits .u64))))))), .undef, (.int .i64 (IntKind.wrap .i64 ((IntKind.wrap .i64 ((Int.fdiv (IntKind.wrap .u64 ((IntKind.wrap .i64 (a1 + b3)))) (2 ^ (Min.min (Int.toNat 1) (IntKind.bits .u64)))))) + m2))), (.int .i64 0), (.int .i64 0), .undef, .undef, .undef, .undef, .undef, .undef, .undef, .undef] H (by kernel_rfl) ?_
      refine then_norm ?_
      refine w_seq ?_
      obtain ⟨R92, h, hK⟩ := h
      refine w_join (fun EI HI => ∃ (d93 : AV) (start94 : Int) (r95 : Int), EI = [data0, (.int .i64 a1), (.int .i64 m2), (.int .i64 b3), (.func cmpg4 cmpc5), (.bool (((IntKind.wrap .i64 (m2 - a1))) == 1)), .undef, .undef, .undef, .undef, .undef, .undef, .undef, (.bool (((IntKind.wrap .i64 (b3 - m2))) == 1)), .undef, .undef, .undef, .undef, .undef, .undef, .undef, (.int .i64 (IntKind.wrap .i64 ((Int.fdiv (IntKind.wrap .u64 ((IntKind.wrap .i64 (a1 + b3)))) (2 ^ (Min.min (Int.toNat 1) (IntKind.bits .u64))))))), d93, (.int .i64 (IntKind.wrap .i64 ((IntKind.wrap .i64 ((Int.fdiv (IntKind.wrap .u64 ((IntKind.wrap .i64 (a1 + b3)))) (2 ^ (Min.min (Int.toNat 1) (IntKind.bits .u64)))))) + m2))), (.int .i64 start94), (.int .i64 r95), .undef, .undef, .undef, .undef, .undef, .undef, .undef, .undef] ∧ H = HI ∧ R92 start94 r95) ?_ ?_
      · clear hK
        refine w_seq ?_
        refine w_run [0, 0, 0] ?_
        refine t_done [data0, (.int .i64 a1), (.int .i64 m2), (.int .i64 b3), (.func cmpg4 cmpc5), (.bool (((IntKind.wrap .i64 (m2 - a1))) == 1)), .undef, .undef, .undef, .undef, .undef, .undef, .undef, (.bool (((IntKind.wrap .i64 (b3 - m2))) == 1)), .undef, .undef, .undef, .undef, .undef, .undef, .undef, (.int .i64 (IntKind.wrap .i64 ((Int.fdiv (IntKind.wrap .u64 ((IntKind.wrap .i64 (a1 + b3)))) (2 ^ (Min.min (Int.toNat 1) (IntKind.bits .u64))))))), (.bool (decide (m2 > (IntKind.wrap .i64 ((Int.fdiv (IntKind.wrap .u64 ((IntKind.wrap .i64 (a1 + b3)))) (2 ^ (Min.min (Int.toNat 1) (IntKind.bits .u64))))))))), (.int .i64 (IntKind.wrap .i64 ((IntKind.wrap .i64 ((Int.fdiv (IntKind.wrap .u64 ((IntKind.wrap .i64 (a1 + b3)))) (2 ^ (Min.min (Int.toNat 1) (IntKind.bits .u64)))))) + m2))), (.int .i64 0), (.int .i64 0), .undef, .undef, .undef, .undef, .undef, .undef, .undef, .undef] H (by kernel_rfl) ?_
        refine then_norm ?_
        refine w_cond (t := (decide (m2 > (IntKind.wrap .i64 ((Int.fdiv (IntKind.wrap .u64 ((IntKind.wrap .i64 (a1 + b3)))) (2 ^ (Min.min (Int.toNat 1) (IntKind.bits .u64))))))))) rfl (fun hc => ?_) (fun hc => ?_)
        · replace h := h.1 (is_dec.t hc)
          refine w_seq ?_
          refine w_run [0, 0, 0, 0] ?_
          refine t_done [data0, (.int .i64 a1), (.int .i64 m2), (.int .i64 b3), (.func cmpg4 cmpc5), (.bool (((IntKind.wrap .i64 (m2 - a1))) == 1)), .undef, .undef, .undef, .undef, .undef, .undef, .undef, (.bool (((IntKind.wrap .i64 (b3 - m2))) == 1)), .undef, .undef, .undef, .undef, .undef, .undef, .undef, (.int .i64 (IntKind.wrap .i64 ((Int.fdiv (IntKind.wrap .u64 ((IntKind.wrap .i64 (a1 + b3)))) (2 ^ (Min.min (Int.toNat 1) (IntKind.bits .u64))))))), (.bool (decide (m2 > (IntKind.wrap .i64 ((Int.fdiv (IntKind.wrap .u64 ((IntKind.wrap .i64 (a1 + b3)))) (2 ^ (Min.min (Int.toNat 1) (IntKind.bits .u64))))))))), (.int .i64 (IntKind.wrap .i64 ((IntKind.wrap .i64 ((Int.fdiv (IntKind.wrap .u64 ((IntKind.wrap .i64 (a1 + b3)))) (2 ^ (Min.min (Int.toNat 1) (IntKind.bits .u64)))))) + m2))), (.int .i64 (IntKind.wrap .i64 ((IntKind.wrap .i64 ((IntKind.wrap .i64 ((Int.fdiv (IntKind.wrap .u64 ((IntKind.wrap .i64 (a1 + b3)))) (2 ^ (Min.min (Int.toNat 1) (IntKind.bits .u64)))))) + m2)) - b3))), (.int .i64 0), .undef, .undef, .undef, .undef, .undef, .undef, .undef, .undef] H (by kernel_rfl) ?_
          refine then_norm ?_
          refine w_run [0, 0] ?_
          refine t_done [data0, (.int .i64 a1), (.int .i64 m2), (.int .i64 b3), (.func cmpg4 cmpc5), (.bool (((IntKind.wrap .i64 (m2 - a1))) == 1)), .undef, .undef, .undef, .undef, .undef, .undef, .undef, (.bool (((IntKind.wrap .i64 (b3 - m2))) == 1)), .undef, .undef, .undef, .undef, .undef, .undef, .undef, (.int .i64 (IntKind.wrap .i64 ((Int.fdiv (IntKind.wrap .u64 ((IntKind.wrap .i64 (a1 + b3)))) (2 ^ (Min.min (Int.toNat 1) (IntKind.bits .u64))))))), (.bool (decide (m2 > (IntKind.wrap .i64 ((Int.fdiv (IntKind.wrap .u64 ((IntKind.wrap .i64 (a1 + b3)))) (2 ^ (Min.min (Int.toNat 1) (IntKind.bits .u64))))))))), (.int .i64 (IntKind.wrap .i64 ((IntKind.wrap .i64 ((Int.fdiv (IntKind.wrap .u64 ((IntKind.wrap .i64 (a1 + b3)))) (2 ^ (Min.min (Int.toNat 1) (IntKind.bits .u64)))))) + m2))), (.int .i64 (IntKind.wrap .i64 ((IntKind.wrap .i64 ((IntKind.wrap .i64 ((Int.fdiv (IntKind.wrap .u64 ((IntKind.wrap .i64 (a1 + b3)))) (2 ^ (Min.min (Int.toNat 1) (IntKind.bits .u64)))))) + m2)) - b3))), (.int .i64 (IntKind.wrap .i64 ((Int.fdiv (IntKind.wrap .u64 ((IntKind.wrap .i64 (a1 + b3)))) (2 ^ (Min.min (Int.toNat 1) (IntKind.bits .u64))))))), .undef, .undef, .undef, .undef, .undef, .undef, .undef, .undef] H (by kernel_rfl) ?_
          refine join_norm ⟨_, _, _, rfl, rfl, h⟩
        · replace h := h.2 (is_dec.f hc)
          refine w_seq ?_
          refine w_run [0, 0] ?_
          refine t_done [data0, (.int .i64 a1), (.int .i64 m2), (.int .i64 b3), (.func cmpg4 cmpc5), (.bool (((IntKind.wrap .i64 (m2 - a1))) == 1)), .undef, .undef, .undef, .undef, .undef, .undef, .undef, (.bool (((IntKind.wrap .i64 (b3 - m2))) == 1)), .undef, .undef, .undef, .undef, .undef, .undef, .undef, (.int .i64 (IntKind.wrap .i64 ((Int.fdiv (IntKind.wrap .u64 ((IntKind.wrap .i64 (a1 + b3)))) (2 ^ (Min.min (Int.toNat 1) (IntKind.bits .u64))))))), (.bool (decide (m2 > (IntKind.wrap .i64 ((Int.fdiv (IntKind.wrap .u64 ((IntKind.wrap .i64 (a1 + b3)))) (2 ^ (Min.min (Int.toNat 1) (IntKind.bits .u64))))))))), (.int .i64 (IntKind.wrap .i64 ((IntKind.wrap .i64 ((Int.fdiv (IntKind.wrap .u64 ((IntKind.wrap .i64 (a1 + b3)))) (2 ^ (Min.min (Int.toNat 1) (IntKind.bits .u64)))))) + m2))), (.int .i64 a1), (.int .i64 0), .undef, .undef, .undef, .undef, .undef, .undef, .undef, .undef] H (by kernel_rfl) ?_
          refine then_norm ?_
          refine w_run [0, 0] ?_
          refine t_done [data0, (.int .i64 a1), (.int .i64 m2), (.int .i64 b3), (.func cmpg4 cmpc5), (.bool (((IntKind.wrap .i64 (m2 - a1))) == 1)), .undef, .undef, .undef, .undef, .undef, .undef, .undef, (.bool (((IntKind.wrap .i64 (b3 - m2))) == 1)), .undef, .undef, .undef, .undef, .undef, .undef, .undef, (.int .i64 (IntKind.wrap .i64 ((Int.fdiv (IntKind.wrap .u64 ((IntKind.wrap .i64 (a1 + b3)))) (2 ^ (Min.min (Int.toNat 1) (IntKind.bits .u64))))))), (.bool (decide (m2 > (IntKind.wrap .i64 ((Int.fdiv (IntKind.wrap .u64 ((IntKind.wrap .i64 (a1 + b3)))) (2 ^ (Min.min (Int.toNat 1) (IntKind.bits .u64))))))))), (.int .i64 (IntKind.wrap .i64 ((IntKind.wrap .i64 ((Int.fdiv (IntKind.wrap .u64 ((IntKind.wrap .i64 (a1 + b3)))) (2 ^ (Min.min (Int.toNat 1) (IntKind.bits .u64)))))) + m2))), (.int .i64 a1), (.int .i64 m2), .undef, .undef, .undef, .undef, .undef, .undef, .undef, .undef] H (by kernel_rfl) ?_
          refine join_norm ⟨_, _, _, rfl, rfl, h⟩
      · clear h
        rintro EI HI ⟨d93, start94, r95, rfl, rfl, hJ⟩
        have h := hK start94 r95 hJ
        clear hJ hK
        refine then_norm ?_
        refine w_seq ?_
        refine w_run [0, 0, 0] ?_
        refine t_done [data0, (.int .i64 a1), (.int .i64 m2), (.int .i64 b3), (.func cmpg4 cmpc5), (.bool (((IntKind.wrap .i64 (m2 - a1))) == 1)), .undef, .undef, .undef, .undef, .undef, .undef, .undef, (.bool (((IntKind.wrap .i64 (b3 - m2))) == 1)), .undef, .undef, .undef, .undef, .undef, .undef, .undef, (.int .i64 (IntKind.wrap .i64 ((Int.fdiv (IntKind.wrap .u64 ((IntKind.wrap .i64 (a1 + b3)))) (2 ^ (Min.min (Int.toNat 1) (IntKind.bits .u64))))))), d93, (.int .i64 (IntKind.wrap .i64 ((IntKind.wrap .i64 ((Int.fdiv (IntKind.wrap .u64 ((IntKind.wrap .i64 (a1 + b3)))) (2 ^ (Min.min (Int.toNat 1) (IntKind.bits .u64)))))) + m2))), (.int .i64 start94), (.int .i64 r95), .undef, (.int .i64 (IntKind.wrap .i64 ((IntKind.wrap .i64 ((IntKind.wrap .i64 ((Int.fdiv (IntKind.wrap .u64 ((IntKind.wrap .i64 (a1 + b3)))) (2 ^ (Min.min (Int.toNat 1) (IntKind.bits .u64)))))) + m2)) - 1))), .undef, .undef, .undef, .undef, .undef, .undef] H (by kernel_rfl) ?_
        refine then_norm ?_
        refine w_seq ?_
        refine w_block ?_
        obtain ⟨J96, k97, h0, h⟩ := h
        refine w_loop (I := fun mI EI HI => ∃ (start99 : Int) (r100 : Int) (d101 : AV) (d102 : AV) (d103 : AV), EI = [data0, (.int .i64 a1), (.int .i64 m2), (.int .i64 b3), (.func cmpg4 cmpc5), (.bool (((IntKind.wrap .i64 (m2 - a1))) == 1)), .undef, .undef, .undef, .undef, .undef, .undef, .undef, (.bool (((IntKind.wrap .i64 (b3 - m2))) == 1)), .undef, .undef, .undef, .undef, .undef, .undef, .undef, (.int .i64 (IntKind.wrap .i64 ((Int.fdiv (IntKind.wrap .u64 ((IntKind.wrap .i64 (a1 + b3)))) (2 ^ (Min.min (Int.toNat 1) (IntKind.bits .u64))))))), d93, (.int .i64 (IntKind.wrap .i64 ((IntKind.wrap .i64 ((Int.fdiv (IntKind.wrap .u64 ((IntKind.wrap .i64 (a1 + b3)))) (2 ^ (Min.min (Int.toNat 1) (IntKind.bits .u64)))))) + m2))), (.int .i64 start99), (.int .i64 r100), d101, (.int .i64 (IntKind.wrap .i64 ((IntKind.wrap .i64 ((IntKind.wrap .i64 ((Int.fdiv (IntKind.wrap .u64 ((IntKind.wrap .i64 (a1 + b3)))) (2 ^ (Min.min (Int.toNat 1) (IntKind.bits .u64)))))) + m2)) - 1))), d102, d103, .undef, .undef, .undef, .undef] ∧ J96 mI start99 r100 HI) ?_ k97 ⟨_, _, _, _, _, rfl, h0⟩
        clear h0
        rintro m98 EI H104 ⟨start99, r100, d101, d102, d103, rfl, hJ⟩
        replace h := h m98 start99 r100 H104 hJ
        clear hJ
        refine w_seq ?_
        refine w_seq ?_
        refine w_run [0, 0, 0] ?_
        refine t_done [data0, (.int .i64 a1), (.int .i64 m2), (.int .i64 b3), (.func cmpg4 cmpc5), (.bool (((IntKind.wrap .i64 (m2 - a1))) == 1)), .undef, .undef, .undef, .undef, .undef, .undef, .undef, (.bool (((IntKind.wrap .i64 (b3 - m2))) == 1)), .undef, .undef, .undef, .undef, .undef, .undef, .undef, (.int .i64 (IntKind.wrap .i64 ((Int.fdiv (IntKind.wrap .u64 ((IntKind.wrap .i64 (a1 + b3)))) (2 ^ (Min.min (Int.toNat 1) (IntKind.bits .u64))))))), d93, (.int .i64 (IntKind.wrap .i64 ((IntKind.wrap .i64 ((Int.fdiv (IntKind.wrap .u64 ((IntKind.wrap .i64 (a1 + b3)))) (2 ^ (Min.min (Int.toNat 1) (IntKind.bits .u64)))))) + m2))), (.int .i64 start99), (.int .i64 r100), (.bool (decide (start99 < r100))), (.int .i64 (IntKind.wrap .i64 ((IntKind.wrap .i64 ((IntKind.wrap .i64 ((Int.fdiv (IntKind.wrap .u64 ((IntKind.wrap .i64 (a1 + b3)))) (2 ^ (Min.min (Int.toNat 1) (IntKind.bits .u64)))))) + m2)) - 1))), d102, d103, .undef, .undef, .undef, .undef] H104 (by kernel_rfl) ?_
        refine then_norm ?_
        refine w_cond (t := (decide (start99 < r100))) rfl (fun hc => ?_) (fun hc => ?_)
        · replace h := h.1 (is_dec.t hc)
          refine w_skip ?_
          refine then_norm ?_
          refine w_block ?_
          refine w_seq ?_
          refine w_run [0, 0, 0, 0, 1, 0, 0] ?_
          refine t_shr true .no .u64 .u64 (IntKind.wrap .u64 ((IntKind.wrap .i64 (start99 + r100)))) 1 H104 (by kernel_rfl) (by decide) ?_
          refine t_done [data0, (.int .i64 a1), (.int .i64 m2), (.int .i64 b3), (.func cmpg4 cmpc5), (.bool (((IntKind.wrap .i64 (m2 - a1))) == 1)), .undef, .undef, .undef, .undef, .undef, .undef, .undef, (.bool (((IntKind.wrap .i64 (b3 - m2))) == 1)), .undef, .undef, .undef, .undef, .undef, .undef, .undef, (.int .i64 (IntKind.wrap .i64 ((Int.fdiv (IntKind.wrap .u64 ((IntKind.wrap .i64 (a1 + b3)))) (2 ^ (Min.min (Int.toNat 1) (IntKind.bits .u64))))))), d93, (.int .i64 (IntKind.wrap .i64 ((IntKind.wrap .i64 ((Int.fdiv (IntKind.wrap .u64 ((IntKind.wrap .i64 (a1 + b3)))) (2 ^ (Min.min (Int.toNat 1) (IntKind.bits .u64)))))) + m2))), (.int .i64 start99), (.int .i64 r100), (.bool (decide (start99 < r100))), (.int .i64 (IntKind.wrap .i64 ((IntKind.wrap .i64 ((IntKind.wrap .i64 ((Int.fdiv (IntKind.wrap .u64 ((IntKind.wrap .i64 (a1 + b3)))) (2 ^ (Min.min (Int.toNat 1) (IntKind.bits .u64)))))) + m2)) - 1))), (.int .i64 (IntKind.wrap .i64 ((Int.fdiv (IntKind.wrap .u64 ((IntKind.wrap .i64 (start99 + r100)))) (2 ^ (Min.min (Int.toNat 1) (IntKind.bits .u64))))))), d103, .undef, .undef, .undef, .undef] H104 (by kernel_rfl) ?_
          refine then_norm ?_
          refine w_seq ?_
          refine w_run [0, 0, 0, 0, 0, 1, 1, 0, 0, 1, 1, 1, 0, 0] ?_
          obtain ⟨e105, e106, e107, hg108, h⟩ := h
          refine t_idxG false 3 data0 .i64 (IntKind.wrap .i64 ((IntKind.wrap .i64 ((IntKind.wrap .i64 ((IntKind.wrap .i64 ((Int.fdiv (IntKind.wrap .u64 ((IntKind.wrap .i64 (a1 + b3)))) (2 ^ (Min.min (Int.toNat 1) (IntKind.bits .u64)))))) + m2)) - 1)) - (IntKind.wrap .i64 ((Int.fdiv (IntKind.wrap .u64 ((IntKind.wrap .i64 (start99 + r100)))) (2 ^ (Min.min (Int.toNat 1) (IntKind.bits .u64)))))))) H104 (by kernel_rfl) hg108 ?_
          refine t_loadG false (some 3) 3 data0 (IntKind.wrap .i64 ((IntKind.wrap .i64 ((IntKind.wrap .i64 ((IntKind.wrap .i64 ((Int.fdiv (IntKind.wrap .u64 ((IntKind.wrap .i64 (a1 + b3)))) (2 ^ (Min.min (Int.toNat 1) (IntKind.bits .u64)))))) + m2)) - 1)) - (IntKind.wrap .i64 ((Int.fdiv (IntKind.wrap .u64 ((IntKind.wrap .i64 (start99 + r100)))) (2 ^ (Min.min (Int.toNat 1) (IntKind.bits .u64)))))))) 0 (.agg [(.int .i64 e105), e106, (.int .i64 e107)]) H104 (by kernel_rfl) hg108 ?_
          obtain ⟨e109, e110, e111, hg112, h⟩ := h
          refine t_idxG false 3 data0 .i64 (IntKind.wrap .i64 ((Int.fdiv (IntKind.wrap .u64 ((IntKind.wrap .i64 (start99 + r100)))) (2 ^ (Min.min (Int.toNat 1) (IntKind.bits .u64)))))) H104 (by kernel_rfl) hg112 ?_
          refine t_loadG false (some 3) 3 data0 (IntKind.wrap .i64 ((Int.fdiv (IntKind.wrap .u64 ((IntKind.wrap .i64 (start99 + r100)))) (2 ^ (Min.min (Int.toNat 1) (IntKind.bits .u64)))))) 0 (.agg [(.int .i64 e109), e110, (.int .i64 e111)]) H104 (by kernel_rfl) hg112 ?_
          refine t_call true cmpg4 (([(.agg [(.int .i64 e105), e106, (.int .i64 e107)]), (.agg [(.int .i64 e109), e110, (.int .i64 e111)])] : List AV) ++ cmpc5) H104 (by kernel_rfl) h ?_
          clear h
          rintro _ H114 ⟨r113, rfl, h⟩
          refine t_done [data0, (.int .i64 a1), (.int .i64 m2), (.int .i64 b3), (.func cmpg4 cmpc5), (.bool (((IntKind.wrap .i64 (m2 - a1))) == 1)), .undef, .undef, .undef, .undef, .undef, .undef, .undef, (.bool (((IntKind.wrap .i64 (b3 - m2))) == 1)), .undef, .undef, .undef, .undef, .undef, .undef, .undef, (.int .i64 (IntKind.wrap .i64 ((Int.fdiv (IntKind.wrap .u64 ((IntKind.wrap .i64 (a1 + b3)))) (2 ^ (Min.min (Int.toNat 1) (IntKind.bits .u64))))))), d93, (.int .i64 (IntKind.wrap .i64 ((IntKind.wrap .i64 ((Int.fdiv (IntKind.wrap .u64 ((IntKind.wrap .i64 (a1 + b3)))) (2 ^ (Min.min (Int.toNat 1) (IntKind.bits .u64)))))) + m2))), (.int .i64 start99), (.int .i64 r100), (.bool (decide (start99 < r100))), (.int .i64 (IntKind.wrap .i64 ((IntKind.wrap .i64 ((IntKind.wrap .i64 ((Int.fdiv (IntKind.wrap .u64 ((IntKind.wrap .i64 (a1 + b3)))) (2 ^ (Min.min (Int.toNat 1) (IntKind.bits .u64)))))) + m2)) - 1))), (.int .i64 (IntKind.wrap .i64 ((Int.fdiv (IntKind.wrap .u64 ((IntKind.wrap .i64 (start99 + r100)))) (2 ^ (Min.min (Int.toNat 1) (IntKind.bits .u64))))))), (.bool (!(decide (r113 < 0)))), .undef, .undef, .undef, .undef] H114 (by kernel_rfl) ?_
          refine then_norm ?_
          refine w_cond (t := (!(decide (r113 < 0)))) rfl (fun hc => ?_) (fun hc => ?_)
          · replace h := h.1 ((is_not is_dec).t hc)
            refine w_run [0, 0, 0] ?_
            refine t_done [data0, (.int .i64 a1), (.int .i64 m2), (.int .i64 b3), (.func cmpg4 cmpc5), (.bool (((IntKind.wrap .i64 (m2 - a1))) == 1)), .undef, .undef, .undef, .undef, .undef, .undef, .undef, (.bool (((IntKind.wrap .i64 (b3 - m2))) == 1)), .undef, .undef, .undef, .undef, .undef, .undef, .undef, (.int .i64 (IntKind.wrap .i64 ((Int.fdiv (IntKind.wrap .u64 ((IntKind.wrap .i64 (a1 + b3)))) (2 ^ (Min.min (Int.toNat 1) (IntKind.bits .u64))))))), d93, (.int .i64 (IntKind.wrap .i64 ((IntKind.wrap .i64 ((Int.fdiv (IntKind.wrap .u64 ((IntKind.wrap .i64 (a1 + b3)))) (2 ^ (Min.min (Int.toNat 1) (IntKind.bits .u64)))))) + m2))), (.int .i64 (IntKind.wrap .i64 ((IntKind.wrap .i64 ((Int.fdiv (IntKind.wrap .u64 ((IntKind.wrap .i64 (start99 + r100)))) (2 ^ (Min.min (Int.toNat 1) (IntKind.bits .u64)))))) + 1))), (.int .i64 r100), (.bool (decide (start99 < r100))), (.int .i64 (IntKind.wrap .i64 ((IntKind.wrap .i64 ((IntKind.wrap .i64 ((Int.fdiv (IntKind.wrap .u64 ((IntKind.wrap .i64 (a1 + b3)))) (2 ^ (Min.min (Int.toNat 1) (IntKind.bits .u64)))))) + m2)) - 1))), (.int .i64 (IntKind.wrap .i64 ((Int.fdiv (IntKind.wrap .u64 ((IntKind.wrap .i64 (start99 + r100)))) (2 ^ (Min.min (Int.toNat 1) (IntKind.bits .u64))))))), (.bool (!(decide (r113 < 0)))), .undef, .undef, .undef, .undef] H114 (by kernel_rfl) ?_
            refine block_norm ?_
            obtain ⟨m', hm, h⟩ := h
            refine loop_norm ⟨m', hm, _, _, _, _, _, rfl, h⟩
          · replace h := h.2 ((is_not is_dec).f hc)
            refine w_run [0, 0] ?_
            refine t_done [data0, (.int .i64 a1), (.int .i64 m2), (.int .i64 b3), (.func cmpg4 cmpc5), (.bool (((IntKind.wrap .i64 (m2 - a1))) == 1)), .undef, .undef, .undef, .undef, .undef, .undef, .undef, (.bool (((IntKind.wrap .i64 (b3 - m2))) == 1)), .undef, .undef, .undef, .undef, .undef, .undef, .undef, (.int .i64 (IntKind.wrap .i64 ((Int.fdiv (IntKind.wrap .u64 ((IntKind.wrap .i64 (a1 + b3)))) (2 ^ (Min.min (Int.toNat 1) (IntKind.bits .u64))))))), d93, (.int .i64 (IntKind.wrap .i64 ((IntKind.wrap .i64 ((Int.fdiv (IntKind.wrap .u64 ((IntKind.wrap .i64 (a1 + b3)))) (2 ^ (Min.min (Int.toNat 1) (IntKind.bits .u64)))))) + m2))), (.int .i64 start99), (.int .i64 (IntKind.wrap .i64 ((Int.fdiv (IntKind.wrap .u64 ((IntKind.wrap .i64 (start99 + r100)))) (2 ^ (Min.min (Int.toNat 1) (IntKind.bits .u64))))))), (.bool (decide (start99 < r100))), (.int .i64 (IntKind.wrap .i64 ((IntKind.wrap .i64 ((IntKind.wrap .i64 ((Int.fdiv (IntKind.wrap .u64 ((IntKind.wrap .i64 (a1 + b3)))) (2 ^ (Min.min (Int.toNat 1) (IntKind.bits .u64)))))) + m2)) - 1))), (.int .i64 (IntKind.wrap .i64 ((Int.fdiv (IntKind.wrap .u64 ((IntKind.wrap .i64 (start99 + r100)))) (2 ^ (Min.min (Int.toNat 1) (IntKind.bits .u64))))))), (.bool (!(decide (r113 < 0)))), .undef, .undef, .undef, .undef] H114 (by kernel_rfl) ?_
            refine block_norm ?_
            obtain ⟨m', hm, h⟩ := h
            refine loop_norm ⟨m', hm, _, _, _, _, _, rfl, h⟩
        · replace h := h.2 (is_dec.f hc)
          refine w_exit ?_
          refine then_exit ?_
          refine loop_exit ?_
          refine block_exit ?_
          refine then_norm ?_
          refine w_seq ?_
          refine w_run [0, 0, 0, 0] ?_
          refine t_done [data0, (.int .i64 a1), (.int .i64 m2), (.int .i64 b3), (.func cmpg4 cmpc5), (.bool (((IntKind.wrap .i64 (m2 - a1))) == 1)), .undef, .undef, .undef, .undef, .undef, .undef, .undef, (.bool (((IntKind.wrap .i64 (b3 - m2))) == 1)), .undef, .undef, .undef, .undef, .undef, .undef, .undef, (.int .i64 (IntKind.wrap .i64 ((Int.fdiv (IntKind.wrap .u64 ((IntKind.wrap .i64 (a1 + b3)))) (2 ^ (Min.min (Int.toNat 1) (IntKind.bits .u64))))))), d93, (.int .i64 (IntKind.wrap .i64 ((IntKind.wrap .i64 ((Int.fdiv (IntKind.wrap .u64 ((IntKind.wrap .i64 (a1 + b3)))) (2 ^ (Min.min (Int.toNat 1) (IntKind.bits .u64)))))) + m2))), (.int .i64 start99), (.int .i64 r100), (.bool (decide (start99 < r100))), (.int .i64 (IntKind.wrap .i64 ((IntKind.wrap .i64 ((IntKind.wrap .i64 ((Int.fdiv (IntKind.wrap .u64 ((IntKind.wrap .i64 (a1 + b3)))) (2 ^ (Min.min (Int.toNat 1) (IntKind.bits .u64)))))) + m2)) - 1))), d102, d103, (.int .i64 (IntKind.wrap .i64 ((IntKind.wrap .i64 ((IntKind.wrap .i64 ((Int.fdiv (IntKind.wrap .u64 ((IntKind.wrap .i64 (a1 + b3)))) (2 ^ (Min.min (Int.toNat 1) (IntKind.bits .u64)))))) + m2)) - start99))), .undef, .undef, .undef] H104 (by kernel_rfl) ?_
          refine then_norm ?_
          refine w_seq ?_
          refine w_seq ?_
          refine w_run [0, 0, 0, 0, 0, 0, 0, 0] ?_
          refine t_done [data0, (.int .i64 a1), (.int .i64 m2), (.int .i64 b3), (.func cmpg4 cmpc5), (.bool (((IntKind.wrap .i64 (m2 - a1))) == 1)), .undef, .undef, .undef, .undef, .undef, .undef, .undef, (.bool (((IntKind.wrap .i64 (b3 - m2))) == 1)), .undef, .undef, .undef, .undef, .undef, .undef, .undef, (.int .i64 (IntKind.wrap .i64 ((Int.fdiv (IntKind.wrap .u64 ((IntKind.wrap .i64 (a1 + b3)))) (2 ^ (Min.min (Int.toNat 1) (IntKind.bits .u64))))))), d93, (.int .i64 (IntKind.wrap .i64 ((IntKind.wrap .i64 ((Int.fdiv (IntKind.wrap .u64 ((IntKind.wrap .i64 (a1 + b3)))) (2 ^ (Min.min (Int.toNat 1) (IntKind.bits .u64)))))) + m2))), (.int .i64 start99), (.int .i64 r100), (.bool (decide (start99 < r100))), (.int .i64 (IntKind.wrap .i64 ((IntKind.wrap .i64 ((IntKind.wrap .i64 ((Int.fdiv (IntKind.wrap .u64 ((IntKind.wrap .i64 (a1 + b3)))) (2 ^ (Min.min (Int.toNat 1) (IntKind.bits .u64)))))) + m2)) - 1))), d102, d103, (.int .i64 (IntKind.wrap .i64 ((IntKind.wrap .i64 ((IntKind.wrap .i64 ((Int.fdiv (IntKind.wrap .u64 ((IntKind.wrap .i64 (a1 + b3)))) (2 ^ (Min.min (Int.toNat 1) (IntKind.bits .u64)))))) + m2)) - start99))), (.bool ((decide (start99 < m2)) && (decide (m2 < (IntKind.wrap .i64 ((IntKind.wrap .i64 ((IntKind.wrap .i64 ((Int.fdiv (IntKind.wrap .u64 ((IntKind.wrap .i64 (a1 + b3)))) (2 ^ (Min.min (Int.toNat 1) (IntKind.bits .u64)))))) + m2)) - start99)))))), .undef, .undef] H104 (by kernel_rfl) ?_
          refine then_norm ?_
          refine w_cond (t := ((decide (start99 < m2)) && (decide (m2 < (IntKind.wrap .i64 ((IntKind.wrap .i64 ((IntKind.wrap .i64 ((Int.fdiv (IntKind.wrap .u64 ((IntKind.wrap .i64 (a1 + b3)))) (2 ^ (Min.min (Int.toNat 1) (IntKind.bits .u64)))))) + m2)) - start99)))))) rfl (fun hc => ?_) (fun hc => ?_)
          · replace h := h.1 ((is_and is_dec is_dec).t hc)
            refine w_run [0, 0, 0, 0, 0, 1] ?_
            refine t_call true nslices_rotateCmpFunc_speculate_planned [data0, (.int .i64 start99), (.int .i64 m2), (.int .i64 (IntKind.wrap .i64 ((IntKind.wrap .i64 ((IntKind.wrap .i64 ((Int.fdiv (IntKind.wrap .u64 ((IntKind.wrap .i64 (a1 + b3)))) (2 ^ (Min.min (Int.toNat 1) (IntKind.bits .u64)))))) + m2)) - start99))), (.func cmpg4 cmpc5)] H104 (by kernel_rfl) h ?_
            clear h
            rintro _ H118 ⟨rfl, h⟩
            refine t_done [data0, (.int .i64 a1), (.int .i64 m2), (.int .i64 b3), (.func cmpg4 cmpc5), (.bool (((IntKind.wrap .i64 (m2 - a1))) == 1)), .undef, .undef, .undef, .undef, .undef, .undef, .undef, (.bool (((IntKind.wrap .i64 (b3 - m2))) == 1)), .undef, .undef, .undef, .undef, .undef, .undef, .undef, (.int .i64 (IntKind.wrap .i64 ((Int.fdiv (IntKind.wrap .u64 ((IntKind.wrap .i64 (a1 + b3)))) (2 ^ (Min.min (Int.toNat 1) (IntKind.bits .u64))))))), d93, (.int .i64 (IntKind.wrap .i64 ((IntKind.wrap .i64 ((Int.fdiv (IntKind.wrap .u64 ((IntKind.wrap .i64 (a1 + b3)))) (2 ^ (Min.min (Int.toNat 1) (IntKind.bits .u64)))))) + m2))), (.int .i64 start99), (.int .i64 r100), (.bool (decide (start99 < r100))), (.int .i64 (IntKind.wrap .i64 ((IntKind.wrap .i64 ((IntKind.wrap .i64 ((Int.fdiv (IntKind.wrap .u64 ((IntKind.wrap .i64 (a1 + b3)))) (2 ^ (Min.min (Int.toNat 1) (IntKind.bits .u64)))))) + m2)) - 1))), d102, d103, (.int .i64 (IntKind.wrap .i64 ((IntKind.wrap .i64 ((IntKind.wrap .i64 ((Int.fdiv (IntKind.wrap .u64 ((IntKind.wrap .i64 (a1 + b3)))) (2 ^ (Min.min (Int.toNat 1) (IntKind.bits .u64)))))) + m2)) - start99))), (.bool ((decide (start99 < m2)) && (decide (m2 < (IntKind.wrap .i64 ((IntKind.wrap .i64 ((IntKind.wrap .i64 ((Int.fdiv (IntKind.wrap .u64 ((IntKind.wrap .i64 (a1 + b3)))) (2 ^ (Min.min (Int.toNat 1) (IntKind.bits .u64)))))) + m2)) - start99)))))), .undef, .undef] H118 (by kernel_rfl) ?_
            refine then_norm ?_
            refine w_seq ?_
            refine w_seq ?_
            refine w_run [0, 0, 0, 0, 0, 0, 0, 0] ?_
            refine t_done [data0, (.int .i64 a1), (.int .i64 m2), (.int .i64 b3), (.func cmpg4 cmpc5), (.bool (((IntKind.wrap .i64 (m2 - a1))) == 1)), .undef, .undef, .undef, .undef, .undef, .undef, .undef, (.bool (((IntKind.wrap .i64 (b3 - m2))) == 1)), .undef, .undef, .undef, .undef, .undef, .undef, .undef, (.int .i64 (IntKind.wrap .i64 ((Int.fdiv (IntKind.wrap .u64 ((IntKind.wrap .i64 (a1 + b3)))) (2 ^ (Min.min (Int.toNat 1) (IntKind.bits .u64))))))), d93, (.int .i64 (IntKind.wrap .i64 ((IntKind.wrap .i64 ((Int.fdiv (IntKind.wrap .u64 ((IntKind.wrap .i64 (a1 + b3)))) (2 ^ (Min.min (Int.toNat 1) (IntKind.bits .u64)))))) + m2))), (.int .i64 start99), (.int .i64 r100), (.bool (decide (start99 < r100))), (.int .i64 (IntKind.wrap .i64 ((IntKind.wrap .i64 ((IntKind.wrap .i64 ((Int.fdiv (IntKind.wrap .u64 ((IntKind.wrap .i64 (a1 + b3)))) (2 ^ (Min.min (Int.toNat 1) (IntKind.bits .u64)))))) + m2)) - 1))), d102, d103, (.int .i64 (IntKind.wrap .i64 ((IntKind.wrap .i64 ((IntKind.wrap .i64 ((Int.fdiv (IntKind.wrap .u64 ((IntKind.wrap .i64 (a1 + b3)))) (2 ^ (Min.min (Int.toNat 1) (IntKind.bits .u64)))))) + m2)) - start99))), (.bool ((decide (start99 < m2)) && (decide (m2 < (IntKind.wrap .i64 ((IntKind.wrap .i64 ((IntKind.wrap .i64 ((Int.fdiv (IntKind.wrap .u64 ((IntKind.wrap .i64 (a1 + b3)))) (2 ^ (Min.min (Int.toNat 1) (IntKind.bits .u64)))))) + m2)) - start99)))))), (.bool ((decide (a1 < start99)) && (decide (start99 < (IntKind.wrap .i64 ((Int.fdiv (IntKind.wrap .u64 ((IntKind.wrap .i64 (a1 + b3)))) (2 ^ (Min.min (Int.toNat 1) (IntKind.bits .u64)))))))))), .undef] H118 (by kernel_rfl) ?_
            refine then_norm ?_
            refine w_cond (t := ((decide (a1 < start99)) && (decide (start99 < (IntKind.wrap .i64 ((Int.fdiv (IntKind.wrap .u64 ((IntKind.wrap .i64 (a1 + b3)))) (2 ^ (Min.min (Int.toNat 1) (IntKind.bits .u64)))))))))) rfl (fun hc => ?_) (fun hc => ?_)
            · replace h := h.1 ((is_and is_dec is_dec).t hc)
              refine w_run [0, 0, 0, 0, 0, 1] ?_
              refine t_call true nslices_symMergeCmpFunc_speculate_planned [data0, (.int .i64 a1), (.int .i64 start99), (.int .i64 (IntKind.wrap .i64 ((Int.fdiv (IntKind.wrap .u64 ((IntKind.wrap .i64 (a1 + b3)))) (2 ^ (Min.min (Int.toNat 1) (IntKind.bits .u64))))))), (.func cmpg4 cmpc5)] H118 (by kernel_rfl) h ?_
              clear h
              rintro _ H120 ⟨rfl, h⟩
              refine t_done [data0, (.int .i64 a1), (.int .i64 m2), (.int .i64 b3), (.func cmpg4 cmpc5), (.bool (((IntKind.wrap .i64 (m2 - a1))) == 1)), .undef, .undef, .undef, .undef, .undef, .undef, .undef, (.bool (((IntKind.wrap .i64 (b3 - m2))) == 1)), .undef, .undef, .undef, .undef, .undef, .undef, .undef, (.int .i64 (IntKind.wrap .i64 ((Int.fdiv (IntKind.wrap .u64 ((IntKind.wrap .i64 (a1 + b3)))) (2 ^ (Min.min (Int.toNat 1) (IntKind.bits .u64))))))), d93, (.int .i64 (IntKind.wrap .i64 ((IntKind.wrap .i64 ((Int.fdiv (IntKind.wrap .u64 ((IntKind.wrap .i64 (a1 + b3)))) (2 ^ (Min.min (Int.toNat 1) (IntKind.bits .u64)))))) + m2))), (.int .i64 start99), (.int .i64 r100), (.bool (decide (start99 < r100))), (.int .i64 (IntKind.wrap .i64 ((IntKind.wrap .i64 ((IntKind.wrap .i64 ((Int.fdiv (IntKind.wrap .u64 ((IntKind.wrap .i64 (a1 + b3)))) (2 ^ (Min.min (Int.toNat 1) (IntKind.bits .u64)))))) + m2)) - 1))), d102, d103, (.int .i64 (IntKind.wrap .i64 ((IntKind.wrap .i64 ((IntKind.wrap .i64 ((Int.fdiv (IntKind.wrap .u64 ((IntKind.wrap .i64 (a1 + b3)))) (2 ^ (Min.min (Int.toNat 1) (IntKind.bits .u64)))))) + m2)) - start99))), (.bool ((decide (start99 < m2)) && (decide (m2 < (IntKind.wrap .i64 ((IntKind.wrap .i64 ((IntKind.wrap .i64 ((Int.fdiv (IntKind.wrap .u64 ((IntKind.wrap .i64 (a1 + b3)))) (2 ^ (Min.min (Int.toNat 1) (IntKind.bits .u64)))))) + m2)) - start99)))))), (.bool ((decide (a1 < start99)) && (decide (start99 < (IntKind.wrap .i64 ((Int.fdiv (IntKind.wrap .u64 ((IntKind.wrap .i64 (a1 + b3)))) (2 ^ (Min.min (Int.toNat 1) (IntKind.bits .u64)))))))))), .undef] H120 (by kernel_rfl) ?_
              refine then_norm ?_
              refine w_seq ?_
              refine w_run [0, 0, 0, 0, 0, 0, 0, 0] ?_
              refine t_done [data0, (.int .i64 a1), (.int .i64 m2), (.int .i64 b3), (.func cmpg4 cmpc5), (.bool (((IntKind.wrap .i64 (m2 - a1))) == 1)), .undef, .undef, .undef, .undef, .undef, .undef, .undef, (.bool (((IntKind.wrap .i64 (b3 - m2))) == 1)), .undef, .undef, .undef, .undef, .undef, .undef, .undef, (.int .i64 (IntKind.wrap .i64 ((Int.fdiv (IntKind.wrap .u64 ((IntKind.wrap .i64 (a1 + b3)))) (2 ^ (Min.min (Int.toNat 1) (IntKind.bits .u64))))))), d93, (.int .i64 (IntKind.wrap .i64 ((IntKind.wrap .i64 ((Int.fdiv (IntKind.wrap .u64 ((IntKind.wrap .i64 (a1 + b3)))) (2 ^ (Min.min (Int.toNat 1) (IntKind.bits .u64)))))) + m2))), (.int .i64 start99), (.int .i64 r100), (.bool (decide (start99 < r100))), (.int .i64 (IntKind.wrap .i64 ((IntKind.wrap .i64 ((IntKind.wrap .i64 ((Int.fdiv (IntKind.wrap .u64 ((IntKind.wrap .i64 (a1 + b3)))) (2 ^ (Min.min (Int.toNat 1) (IntKind.bits .u64)))))) + m2)) - 1))), d102, d103, (.int .i64 (IntKind.wrap .i64 ((IntKind.wrap .i64 ((IntKind.wrap .i64 ((Int.fdiv (IntKind.wrap .u64 ((IntKind.wrap .i64 (a1 + b3)))) (2 ^ (Min.min (Int.toNat 1) (IntKind.bits .u64)))))) + m2)) - start99))), (.bool ((decide (start99 < m2)) && (decide (m2 < (IntKind.wrap .i64 ((IntKind.wrap .i64 ((IntKind.wrap .i64 ((Int.fdiv (IntKind.wrap .u64 ((IntKind.wrap .i64 (a1 + b3)))) (2 ^ (Min.min (Int.toNat 1) (IntKind.bits .u64)))))) + m2)) - start99)))))), (.bool ((decide (a1 < start99)) && (decide (start99 < (IntKind.wrap .i64 ((Int.fdiv (IntKind.wrap .u64 ((IntKind.wrap .i64 (a1 + b3)))) (2 ^ (Min.min (Int.toNat 1) (IntKind.bits .u64)))))))))), (.bool ((decide ((IntKind.wrap .i64 ((Int.fdiv (IntKind.wrap .u64 ((IntKind.wrap .i64 (a1 + b3)))) (2 ^ (Min.min (Int.toNat 1) (IntKind.bits .u64)))))) < (IntKind.wrap .i64 ((IntKind.wrap .i64 ((IntKind.wrap .i64 ((Int.fdiv (IntKind.wrap .u64 ((IntKind.wrap .i64 (a1 + b3)))) (2 ^ (Min.min (Int.toNat 1) (IntKind.bits .u64)))))) + m2)) - start99)))) && (decide ((IntKind.wrap .i64 ((IntKind.wrap .i64 ((IntKind.wrap .i64 ((Int.fdiv (IntKind.wrap .u64 ((IntKind.wrap .i64 (a1 + b3)))) (2 ^ (Min.min (Int.toNat 1) (IntKind.bits .u64)))))) + m2)) - start99)) < b3))))] H120 (by kernel_rfl) ?_
              refine then_norm ?_
              refine w_cond (t := ((decide ((IntKind.wrap .i64 ((Int.fdiv (IntKind.wrap .u64 ((IntKind.wrap .i64 (a1 + b3)))) (2 ^ (Min.min (Int.toNat 1) (IntKind.bits .u64)))))) < (IntKind.wrap .i64 ((IntKind.wrap .i64 ((IntKind.wrap .i64 ((Int.fdiv (IntKind.wrap .u64 ((IntKind.wrap .i64 (a1 + b3)))) (2 ^ (Min.min (Int.toNat 1) (IntKind.bits .u64)))))) + m2)) - start99)))) && (decide ((IntKind.wrap .i64 ((IntKind.wrap .i64 ((IntKind.wrap .i64 ((Int.fdiv (IntKind.wrap .u64 ((IntKind.wrap .i64 (a1 + b3)))) (2 ^ (Min.min (Int.toNat 1) (IntKind.bits .u64)))))) + m2)) - start99)) < b3)))) rfl (fun hc => ?_) (fun hc => ?_)
              · replace h := h.1 ((is_and is_dec is_dec).t hc)
                refine w_run [0, 0, 0, 0, 0, 1] ?_
                refine t_call true nslices_symMergeCmpFunc_speculate_planned [data0, (.int .i64 (IntKind.wrap .i64 ((Int.fdiv (IntKind.wrap .u64 ((IntKind.wrap .i64 (a1 + b3)))) (2 ^ (Min.min (Int.toNat 1) (IntKind.bits .u64))))))), (.int .i64 (IntKind.wrap .i64 ((IntKind.wrap .i64 ((IntKind.wrap .i64 ((Int.fdiv (IntKind.wrap .u64 ((IntKind.wrap .i64 (a1 + b3)))) (2 ^ (Min.min (Int.toNat 1) (IntKind.bits .u64)))))) + m2)) - start99))), (.int .i64 b3), (.func cmpg4 cmpc5)] H120 (by kernel_rfl) h ?_
                clear h
                rintro _ H122 ⟨rfl, h⟩
                refine t_done [data0, (.int .i64 a1), (.int .i64 m2), (.int .i64 b3), (.func cmpg4 cmpc5), (.bool (((IntKind.wrap .i64 (m2 - a1))) == 1)), .undef, .undef, .undef, .undef, .undef, .undef, .undef, (.bool (((IntKind.wrap .i64 (b3 - m2))) == 1)), .undef, .undef, .undef, .undef, .undef, .undef, .undef, (.int .i64 (IntKind.wrap .i64 ((Int.fdiv (IntKind.wrap .u64 ((IntKind.wrap .i64 (a1 + b3)))) (2 ^ (Min.min (Int.toNat 1) (IntKind.bits .u64))))))), d93, (.int .i64 (IntKind.wrap .i64 ((IntKind.wrap .i64 ((Int.fdiv (IntKind.wrap .u64 ((IntKind.wrap .i64 (a1 + b3)))) (2 ^ (Min.min (Int.toNat 1) (IntKind.bits .u64)))))) + m2))), (.int .i64 start99), (.int .i64 r100), (.bool (decide (start99 < r100))), (.int .i64 (IntKind.wrap .i64 ((IntKind.wrap .i64 ((IntKind.wrap .i64 ((Int.fdiv (IntKind.wrap .u64 ((IntKind.wrap .i64 (a1 + b3)))) (2 ^ (Min.min (Int.toNat 1) (IntKind.bits .u64)))))) + m2)) - 1))), d102, d103, (.int .i64 (IntKind.wrap .i64 ((IntKind.wrap .i64 ((IntKind.wrap .i64 ((Int.fdiv (IntKind.wrap .u64 ((IntKind.wrap .i64 (a1 + b3)))) (2 ^ (Min.min (Int.toNat 1) (IntKind.bits .u64)))))) + m2)) - start99))), (.bool ((decide (start99 < m2)) && (decide (m2 < (IntKind.wrap .i64 ((IntKind.wrap .i64 ((IntKind.wrap .i64 ((Int.fdiv (IntKind.wrap .u64 ((IntKind.wrap .i64 (a1 + b3)))) (2 ^ (Min.min (Int.toNat 1) (IntKind.bits .u64)))))) + m2)) - start99)))))), (.bool ((decide (a1 < start99)) && (decide (start99 < (IntKind.wrap .i64 ((Int.fdiv (IntKind.wrap .u64 ((IntKind.wrap .i64 (a1 + b3)))) (2 ^ (Min.min (Int.toNat 1) (IntKind.bits .u64)))))))))), (.bool ((decide ((IntKind.wrap .i64 ((Int.fdiv (IntKind.wrap .u64 ((IntKind.wrap .i64 (a1 + b3)))) (2 ^ (Min.min (Int.toNat 1) (IntKind.bits .u64)))))) < (IntKind.wrap .i64 ((IntKind.wrap .i64 ((IntKind.wrap .i64 ((Int.fdiv (IntKind.wrap .u64 ((IntKind.wrap .i64 (a1 + b3)))) (2 ^ (Min.min (Int.toNat 1) (IntKind.bits .u64)))))) + m2)) - start99)))) && (decide ((IntKind.wrap .i64 ((IntKind.wrap .i64 ((IntKind.wrap .i64 ((Int.fdiv (IntKind.wrap .u64 ((IntKind.wrap .i64 (a1 + b3)))) (2 ^ (Min.min (Int.toNat 1) (IntKind.bits .u64)))))) + m2)) - start99)) < b3))))] H122 (by kernel_rfl) ?_
                exact body_norm (vs := []) _ (by kernel_rfl) rfl h
              · replace h := h.2 ((is_and is_dec is_dec).f hc)
                refine w_skip ?_
                exact body_norm (vs := []) _ (by kernel_rfl) rfl h
            · replace h := h.2 ((is_and is_dec is_dec).f hc)
              refine w_skip ?_
              refine then_norm ?_
              refine w_seq ?_
              refine w_run [0, 0, 0, 0, 0, 0, 0, 0] ?_
              refine t_done [data0, (.int .i64 a1), (.int .i64 m2), (.int .i64 b3), (.func cmpg4 cmpc5), (.bool (((IntKind.wrap .i64 (m2 - a1))) == 1)), .undef, .undef, .undef, .undef, .undef, .undef, .undef, (.bool (((IntKind.wrap .i64 (b3 - m2))) == 1)), .undef, .undef, .undef, .undef, .undef, .undef, .undef, (.int .i64 (IntKind.wrap .i64 ((Int.fdiv (IntKind.wrap .u64 ((IntKind.wrap .i64 (a1 + b3)))) (2 ^ (Min.min (Int.toNat 1) (IntKind.bits .u64))))))), d93, (.int .i64 (IntKind.wrap .i64 ((IntKind.wrap .i64 ((Int.fdiv (IntKind.wrap .u64 ((IntKind.wrap .i64 (a1 + b3)))) (2 ^ (Min.min (Int.toNat 1) (IntKind.bits .u64)))))) + m2))), (.int .i64 start99), (.int .i64 r100), (.bool (decide (start99 < r100))), (.int .i64 (IntKind.wrap .i64 ((IntKind.wrap .i64 ((IntKind.wrap .i64 ((Int.fdiv (IntKind.wrap .u64 ((IntKind.wrap .i64 (a1 + b3)))) (2 ^ (Min.min (Int.toNat 1) (IntKind.bits .u64)))))) + m2)) - 1))), d102, d103, (.int .i64 (IntKind.wrap .i64 ((IntKind.wrap .i64 ((IntKind.wrap .i64 ((Int.fdiv (IntKind.wrap .u64 ((IntKind.wrap .i64 (a1 + b3)))) (2 ^ (Min.min (Int.toNat 1) (IntKind.bits .u64)))))) + m2)) - start99))), (.bool ((decide (start99 < m2)) && (decide (m2 < (IntKind.wrap .i64 ((IntKind.wrap .i64 ((IntKind.wrap .i64 ((Int.fdiv (IntKind.wrap .u64 ((IntKind.wrap .i64 (a1 + b3)))) (2 ^ (Min.min (Int.toNat 1) (IntKind.bits .u64)))))) + m2)) - start99)))))), (.bool ((decide (a1 < start99)) && (decide (start99 < (IntKind.wrap .i64 ((Int.fdiv (IntKind.wrap .u64 ((IntKind.wrap .i64 (a1 + b3)))) (2 ^ (Min.min (Int.toNat 1) (IntKind.bits .u64)))))))))), (.bool ((decide ((IntKind.wrap .i64 ((Int.fdiv (IntKind.wrap .u64 ((IntKind.wrap .i64 (a1 + b3)))) (2 ^ (Min.min (Int.toNat 1) (IntKind.bits .u64)))))) < (IntKind.wrap .i64 ((IntKind.wrap .i64 ((IntKind.wrap .i64 ((Int.fdiv (IntKind.wrap .u64 ((IntKind.wrap .i64 (a1 + b3)))) (2 ^ (Min.min (Int.toNat 1) (IntKind.bits .u64)))))) + m2)) - start99)))) && (decide ((IntKind.wrap .i64 ((IntKind.wrap .i64 ((IntKind.wrap .i64 ((Int.fdiv (IntKind.wrap .u64 ((IntKind.wrap .i64 (a1 + b3)))) (2 ^ (Min.min (Int.toNat 1) (IntKind.bits .u64)))))) + m2)) - start99)) < b3))))] H118 (by kernel_rfl) ?_
              refine then_norm ?_
              refine w_cond (t := ((decide ((IntKind.wrap .i64 ((Int.fdiv (IntKind.wrap .u64 ((IntKind.wrap .i64 (a1 + b3)))) (2 ^ (Min.min (Int.toNat 1) (IntKind.bits .u64)))))) < (IntKind.wrap .i64 ((IntKind.wrap .i64 ((IntKind.wrap .i64 ((Int.fdiv (IntKind.wrap .u64 ((IntKind.wrap .i64 (a1 + b3)))) (2 ^ (Min.min (Int.toNat 1) (IntKind.bits .u64)))))) + m2)) - start99)))) && (decide ((IntKind.wrap .i64 ((IntKind.wrap .i64 ((IntKind.wrap .i64 ((Int.fdiv (IntKind.wrap .u64 ((IntKind.wrap .i64 (a1 + b3)))) (2 ^ (Min.min (Int.toNat 1) (IntKind.bits .u64)))))) + m2)) - start99)) < b3)))) rfl (fun hc => ?_) (fun hc => ?_)
              · replace h := h.1 ((is_and is_dec is_dec).t hc)
                refine w_run [0, 0, 0, 0, 0, 1] ?_
                refine t_call true nslices_symMergeCmpFunc_speculate_planned [data0, (.int .i64 (IntKind.wrap .i64 ((Int.fdiv (IntKind.wrap .u64 ((IntKind.wrap .i64 (a1 + b3)))) (2 ^ (Min.min (Int.toNat 1) (IntKind.bits .u64))))))), (.int .i64 (IntKind.wrap .i64 ((IntKind.wrap .i64 ((IntKind.wrap .i64 ((Int.fdiv (IntKind.wrap .u64 ((IntKind.wrap .i64 (a1 + b3)))) (2 ^ (Min.min (Int.toNat 1) (IntKind.bits .u64)))))) + m2)) - start99))), (.int .i64 b3), (.func cmpg4 cmpc5)] H118 (by kernel_rfl) h ?_
                clear h
                rintro _ H124 ⟨rfl, h⟩
                refine t_done [data0, (.int .i64 a1), (.int .i64 m2), (.int .i64 b3), (.func cmpg4 cmpc5), (.bool (((IntKind.wrap .i64 (m2 - a1))) == 1)), .undef, .undef, .undef, .undef, .undef, .undef, .undef, (.bool (((IntKind.wrap .i64 (b3 - m2))) == 1)), .undef, .undef, .undef, .undef, .undef, .undef, .undef, (.int .i64 (IntKind.wrap .i64 ((Int.fdiv (IntKind.wrap .u64 ((IntKind.wrap .i64 (a1 + b3)))) (2 ^ (Min.min (Int.toNat 1) (IntKind.bits .u64))))))), d93, (.int .i64 (IntKind.wrap .i64 ((IntKind.wrap .i64 ((Int.fdiv (IntKind.wrap .u64 ((IntKind.wrap .i64 (a1 + b3)))) (2 ^ (Min.min (Int.toNat 1) (IntKind.bits .u64)))))) + m2))), (.int .i64 start99), (.int .i64 r100), (.bool (decide (start99 < r100))), (.int .i64 (IntKind.wrap .i64 ((IntKind.wrap .i64 ((IntKind.wrap .i64 ((Int.fdiv (IntKind.wrap .u64 ((IntKind.wrap .i64 (a1 + b3)))) (2 ^ (Min.min (Int.toNat 1) (IntKind.bits .u64)))))) + m2)) - 1))), d102, d103, (.int .i64 (IntKind.wrap .i64 ((IntKind.wrap .i64 ((IntKind.wrap .i64 ((Int.fdiv (IntKind.wrap .u64 ((IntKind.wrap .i64 (a1 + b3)))) (2 ^ (Min.min (Int.toNat 1) (IntKind.bits .u64)))))) + m2)) - start99))), (.bool ((decide (start99 < m2)) && (decide (m2 < (IntKind.wrap .i64 ((IntKind.wrap .i64 ((IntKind.wrap .i64 ((Int.fdiv (IntKind.wrap .u64 ((IntKind.wrap .i64 (a1 + b3)))) (2 ^ (Min.min (Int.toNat 1) (IntKind.bits .u64)))))) + m2)) - start99)))))), (.bool ((decide (a1 < start99)) && (decide (start99 < (IntKind.wrap .i64 ((Int.fdiv (IntKind.wrap .u64 ((IntKind.wrap .i64 (a1 + b3)))) (2 ^ (Min.min (Int.toNat 1) (IntKind.bits .u64)))))))))), (.bool ((decide ((IntKind.wrap .i64 ((Int.fdiv (IntKind.wrap .u64 ((IntKind.wrap .i64 (a1 + b3)))) (2 ^ (Min.min (Int.toNat 1) (IntKind.bits .u64)))))) < (IntKind.wrap .i64 ((IntKind.wrap .i64 ((IntKind.wrap .i64 ((Int.fdiv (IntKind.wrap .u64 ((IntKind.wrap .i64 (a1 + b3)))) (2 ^ (Min.min (Int.toNat 1) (IntKind.bits .u64)))))) + m2)) - start99)))) && (decide ((IntKind.wrap .i64 ((IntKind.wrap .i64 ((IntKind.wrap .i64 ((Int.fdiv (IntKind.wrap .u64 ((IntKind.wrap .i64 (a1 + b3)))) (2 ^ (Min.min (Int.toNat 1) (IntKind.bits .u64)))))) + m2)) - start99)) < b3))))] H124 (by kernel_rfl) ?_
                exact body_norm (vs := []) _ (by kernel_rfl) rfl h
              · replace h := h.2 ((is_and is_dec is_dec).f hc)
                refine w_skip ?_
                exact body_norm (vs := []) _ (by kernel_rfl) rfl h
          · replace h := h.2 ((is_and is_dec is_dec).f hc)
            refine w_skip ?_
            refine then_norm ?_
            refine w_seq ?_
            refine w_seq ?_
            refine w_run [0, 0, 0, 0, 0, 0, 0, 0] ?_
            refine t_done [data0, (.int .i64 a1), (.int .i64 m2), (.int .i64 b3), (.func cmpg4 cmpc5), (.bool (((IntKind.wrap .i64 (m2 - a1))) == 1)), .undef, .undef, .undef, .undef, .undef, .undef, .undef, (.bool (((IntKind.wrap .i64 (b3 - m2))) == 1)), .undef, .undef, .undef, .undef, .undef, .undef, .undef, (.int .i64 (IntKind.wrap .i64 ((Int.fdiv (IntKind.wrap .u64 ((IntKind.wrap .i64 (a1 + b3)))) (2 ^ (Min.min (Int.toNat 1) (IntKind.bits .u64))))))), d93, (.int .i64 (IntKind.wrap .i64 ((IntKind.wrap .i64 ((Int.fdiv (IntKind.wrap .u64 ((IntKind.wrap .i64 (a1 + b3)))) (2 ^ (Min.min (Int.toNat 1) (IntKind.bits .u64)))))) + m2))), (.int .i64 start99), (.int .i64 r100), (.bool (decide (start99 < r100))), (.int .i64 (IntKind.wrap .i64 ((IntKind.wrap .i64 ((IntKind.wrap .i64 ((Int.fdiv (IntKind.wrap .u64 ((IntKind.wrap .i64 (a1 + b3)))) (2 ^ (Min.min (Int.toNat 1) (IntKind.bits .u64)))))) + m2)) - 1))), d102, d103, (.int .i64 (IntKind.wrap .i64 ((IntKind.wrap .i64 ((IntKind.wrap .i64 ((Int.fdiv (IntKind.wrap .u64 ((IntKind.wrap .i64 (a1 + b3)))) (2 ^ (Min.min (Int.toNat 1) (IntKind.bits .u64)))))) + m2)) - start99))), (.bool ((decide (start99 < m2)) && (decide (m2 < (IntKind.wrap .i64 ((IntKind.wrap .i64 ((IntKind.wrap .i64 ((Int.fdiv (IntKind.wrap .u64 ((IntKind.wrap .i64 (a1 + b3)))) (2 ^ (Min.min (Int.toNat 1) (IntKind.bits .u64)))))) + m2)) - start99)))))), (.bool ((decide (a1 < start99)) && (decide (start99 < (IntKind.wrap .i64 ((Int.fdiv (IntKind.wrap .u64 ((IntKind.wrap .i64 (a1 + b3)))) (2 ^ (Min.min (Int.toNat 1) (IntKind.bits .u64)))))))))), .undef] H104 (by kernel_rfl) ?_
            refine then_norm ?_
            refine w_cond (t := ((decide (a1 < start99)) && (decide (start99 < (IntKind.wrap .i64 ((Int.fdiv (IntKind.wrap .u64 ((IntKind.wrap .i64 (a1 + b3)))) (2 ^ (Min.min (Int.toNat 1) (IntKind.bits .u64)))))))))) rfl (fun hc => ?_) (fun hc => ?_)
            · replace h := h.1 ((is_and is_dec is_dec).t hc)
              refine w_run [0, 0, 0, 0, 0, 1] ?_
              refine t_call true nslices_symMergeCmpFunc_speculate_planned [data0, (.int .i64 a1), (.int .i64 start99), (.int .i64 (IntKind.wrap .i64 ((Int.fdiv (IntKind.wrap .u64 ((IntKind.wrap .i64 (a1 + b3)))) (2 ^ (Min.min (Int.toNat 1) (IntKind.bits .u64))))))), (.func cmpg4 cmpc5)] H104 (by kernel_rfl) h ?_
              clear h
              rintro _ H126 ⟨rfl, h⟩
              refine t_done [data0, (.int .i64 a1), (.int .i64 m2), (.int .i64 b3), (.func cmpg4 cmpc5), (.bool (((IntKind.wrap .i64 (m2 - a1))) == 1)), .undef, .undef, .undef, .undef, .undef, .undef, .undef, (.bool (((IntKind.wrap .i64 (b3 - m2))) == 1)), .undef, .undef, .undef, .undef, .undef, .undef, .undef, (.int .i64 (IntKind.wrap .i64 ((Int.fdiv (IntKind.wrap .u64 ((IntKind.wrap .i64 (a1 + b3)))) (2 ^ (Min.min (Int.toNat 1) (IntKind.bits .u64))))))), d93, (.int .i64 (IntKind.wrap .i64 ((IntKind.wrap .i64 ((Int.fdiv (IntKind.wrap .u64 ((IntKind.wrap .i64 (a1 + b3)))) (2 ^ (Min.min (Int.toNat 1) (IntKind.bits .u64)))))) + m2))), (.int .i64 start99), (.int .i64 r100), (.bool (decide (start99 < r100))), (.int .i64 (IntKind.wrap .i64 ((IntKind.wrap .i64 ((IntKind.wrap .i64 ((Int.fdiv (IntKind.wrap .u64 ((IntKind.wrap .i64 (a1 + b3)))) (2 ^ (Min.min (Int.toNat 1) (IntKind.bits .u64)))))) + m2)) - 1))), d102, d103, (.int .i64 (IntKind.wrap .i64 ((IntKind.wrap .i64 ((IntKind.wrap .i64 ((Int.fdiv (IntKind.wrap .u64 ((IntKind.wrap .i64 (a1 + b3)))) (2 ^ (Min.min (Int.toNat 1) (IntKind.bits .u64)))))) + m2)) - start99))), (.bool ((decide (start99 < m2)) && (decide (m2 < (IntKind.wrap .i64 ((IntKind.wrap .i64 ((IntKind.wrap .i64 ((Int.fdiv (IntKind.wrap .u64 ((IntKind.wrap .i64 (a1 + b3)))) (2 ^ (Min.min (Int.toNat 1) (IntKind.bits .u64)))))) + m2)) - start99)))))), (.bool ((decide (a1 < start99)) && (decide (start99 < (IntKind.wrap .i64 ((Int.fdiv (IntKind.wrap .u64 ((IntKind.wrap .i64 (a1 + b3)))) (2 ^ (Min.min (Int.toNat 1) (IntKind.bits .u64)))))))))), .undef] H126 (by kernel_rfl) ?_
              refine then_norm ?_
              refine w_seq ?_
              refine w_run [0, 0, 0, 0, 0, 0, 0, 0] ?_
              refine t_done [data0, (.int .i64 a1), (.int .i64 m2), (.int .i64 b3), (.func cmpg4 cmpc5), (.bool (((IntKind.wrap .i64 (m2 - a1))) == 1)), .undef, .undef, .undef, .undef, .undef, .undef, .undef, (.bool (((IntKind.wrap .i64 (b3 - m2))) == 1)), .undef, .undef, .undef, .undef, .undef, .undef, .undef, (.int .i64 (IntKind.wrap .i64 ((Int.fdiv (IntKind.wrap .u64 ((IntKind.wrap .i64 (a1 + b3)))) (2 ^ (Min.min (Int.toNat 1) (IntKind.bits .u64))))))), d93, (.int .i64 (IntKind.wrap .i64 ((IntKind.wrap .i64 ((Int.fdiv (IntKind.wrap .u64 ((IntKind.wrap .i64 (a1 + b3)))) (2 ^ (Min.min (Int.toNat 1) (IntKind.bits .u64)))))) + m2))), (.int .i64 start99), (.int .i64 r100), (.bool (decide (start99 < r100))), (.int .i64 (IntKind.wrap .i64 ((IntKind.wrap .i64 ((IntKind.wrap .i64 ((Int.fdiv (IntKind.wrap .u64 ((IntKind.wrap .i64 (a1 + b3)))) (2 ^ (Min.min (Int.toNat 1) (IntKind.bits .u64)))))) + m2)) - 1))), d102, d103, (.int .i64 (IntKind.wrap .i64 ((IntKind.wrap .i64 ((IntKind.wrap .i64 ((Int.fdiv (IntKind.wrap .u64 ((IntKind.wrap .i64 (a1 + b3)))) (2 ^ (Min.min (Int.toNat 1) (IntKind.bits .u64)))))) + m2)) - start99))), (.bool ((decide (start99 < m2)) && (decide (m2 < (IntKind.wrap .i64 ((IntKind.wrap .i64 ((IntKind.wrap .i64 ((Int.fdiv (IntKind.wrap .u64 ((IntKind.wrap .i64 (a1 + b3)))) (2 ^ (Min.min (Int.toNat 1) (IntKind.bits .u64)))))) + m2)) - start99)))))), (.bool ((decide (a1 < start99)) && (decide (start99 < (IntKind.wrap .i64 ((Int.fdiv (IntKind.wrap .u64 ((IntKind.wrap .i64 (a1 + b3)))) (2 ^ (Min.min (Int.toNat 1) (IntKind.bits .u64)))))))))), (.bool ((decide ((IntKind.wrap .i64 ((Int.fdiv (IntKind.wrap .u64 ((IntKind.wrap .i64 (a1 + b3)))) (2 ^ (Min.min (Int.toNat 1) (IntKind.bits .u64)))))) < (IntKind.wrap .i64 ((IntKind.wrap .i64 ((IntKind.wrap .i64 ((Int.fdiv (IntKind.wrap .u64 ((IntKind.wrap .i64 (a1 + b3)))) (2 ^ (Min.min (Int.toNat 1) (IntKind.bits .u64)))))) + m2)) - start99)))) && (decide ((IntKind.wrap .i64 ((IntKind.wrap .i64 ((IntKind.wrap .i64 ((Int.fdiv (IntKind.wrap .u64 ((IntKind.wrap .i64 (a1 + b3)))) (2 ^ (Min.min (Int.toNat 1) (IntKind.bits .u64)))))) + m2)) - start99)) < b3))))] H126 (by kernel_rfl) ?_
              refine then_norm ?_
              refine w_cond (t := ((decide ((IntKind.wrap .i64 ((Int.fdiv (IntKind.wrap .u64 ((IntKind.wrap .i64 (a1 + b3)))) (2 ^ (Min.min (Int.toNat 1) (IntKind.bits .u64)))))) < (IntKind.wrap .i64 ((IntKind.wrap .i64 ((IntKind.wrap .i64 ((Int.fdiv (IntKind.wrap .u64 ((IntKind.wrap .i64 (a1 + b3)))) (2 ^ (Min.min (Int.toNat 1) (IntKind.bits .u64)))))) + m2)) - start99)))) && (decide ((IntKind.wrap .i64 ((IntKind.wrap .i64 ((IntKind.wrap .i64 ((Int.fdiv (IntKind.wrap .u64 ((IntKind.wrap .i64 (a1 + b3)))) (2 ^ (Min.min (Int.toNat 1) (IntKind.bits .u64)))))) + m2)) - start99)) < b3)))) rfl (fun hc => ?_) (fun hc => ?_)
              · replace h := h.1 ((is_and is_dec is_dec).t hc)
                refine w_run [0, 0, 0, 0, 0, 1] ?_
                refine t_call true nslices_symMergeCmpFunc_speculate_planned [data0, (.int .i64 (IntKind.wrap .i64 ((Int.fdiv (IntKind.wrap .u64 ((IntKind.wrap .i64 (a1 + b3)))) (2 ^ (Min.min (Int.toNat 1) (IntKind.bits .u64))))))), (.int .i64 (IntKind.wrap .i64 ((IntKind.wrap .i64 ((IntKind.wrap .i64 ((Int.fdiv (IntKind.wrap .u64 ((IntKind.wrap .i64 (a1 + b3)))) (2 ^ (Min.min (Int.toNat 1) (IntKind.bits .u64)))))) + m2)) - start99))), (.int .i64 b3), (.func cmpg4 cmpc5)] H126 (by kernel_rfl) h ?_
                clear h
                rintro _ H128 ⟨rfl, h⟩
                refine t_done [data0, (.int .i64 a1), (.int .i64 m2), (.int .i64 b3), (.func cmpg4 cmpc5), (.bool (((IntKind.wrap .i64 (m2 - a1))) == 1)), .undef, .undef, .undef, .undef, .undef, .undef, .undef, (.bool (((IntKind.wrap .i64 (b3 - m2))) == 1)), .undef, .undef, .undef, .undef, .undef, .undef, .undef, (.int .i64 (IntKind.wrap .i64 ((Int.fdiv (IntKind.wrap .u64 ((IntKind.wrap .i64 (a1 + b3)))) (2 ^ (Min.min (Int.toNat 1) (IntKind.bits .u64))))))), d93, (.int .i64 (IntKind.wrap .i64 ((IntKind.wrap .i64 ((Int.fdiv (IntKind.wrap .u64 ((IntKind.wrap .i64 (a1 + b3)))) (2 ^ (Min.min (Int.toNat 1) (IntKind.bits .u64)))))) + m2))), (.int .i64 start99), (.int .i64 r100), (.bool (decide (start99 < r100))), (.int .i64 (IntKind.wrap .i64 ((IntKind.wrap .i64 ((IntKind.wrap .i64 ((Int.fdiv (IntKind.wrap .u64 ((IntKind.wrap .i64 (a1 + b3)))) (2 ^ (Min.min (Int.toNat 1) (IntKind.bits .u64)))))) + m2)) - 1))), d102, d103, (.int .i64 (IntKind.wrap .i64 ((IntKind.wrap .i64 ((IntKind.wrap .i64 ((Int.fdiv (IntKind.wrap .u64 ((IntKind.wrap .i64 (a1 + b3)))) (2 ^ (Min.min (Int.toNat 1) (IntKind.bits .u64)))))) + m2)) - start99))), (.bool ((decide (start99 < m2)) && (decide (m2 < (IntKind.wrap .i64 ((IntKind.wrap .i64 ((IntKind.wrap .i64 ((Int.fdiv (IntKind.wrap .u64 ((IntKind.wrap .i64 (a1 + b3)))) (2 ^ (Min.min (Int.toNat 1) (IntKind.bits .u64)))))) + m2)) - start99)))))), (.bool ((decide (a1 < start99)) && (decide (start99 < (IntKind.wrap .i64 ((Int.fdiv (IntKind.wrap .u64 ((IntKind.wrap .i64 (a1 + b3)))) (2 ^ (Min.min (Int.toNat 1) (IntKind.bits .u64)))))))))), (.bool ((decide ((IntKind.wrap .i64 ((Int.fdiv (IntKind.wrap .u64 ((IntKind.wrap .i64 (a1 + b3)))) (2 ^ (Min.min (Int.toNat 1) (IntKind.bits .u64)))))) < (IntKind.wrap .i64 ((IntKind.wrap .i64 ((IntKind.wrap .i64 ((Int.fdiv (IntKind.wrap .u64 ((IntKind.wrap .i64 (a1 + b3)))) (2 ^ (Min.min (Int.toNat 1) (IntKind.bits .u64)))))) + m2)) - start99)))) && (decide ((IntKind.wrap .i64 ((IntKind.wrap .i64 ((IntKind.wrap .i64 ((Int.fdiv (IntKind.wrap .u64 ((IntKind.wrap .i64 (a1 + b3)))) (2 ^ (Min.min (Int.toNat 1) (IntKind.bits .u64)))))) + m2)) - start99)) < b3))))] H128 (by kernel_rfl) ?_
                exact body_norm (vs := []) _ (by kernel_rfl) rfl h
              · replace h := h.2 ((is_and is_dec is_dec).f hc)
                refine w_skip ?_
                exact body_norm (vs := []) _ (by kernel_rfl) rfl h
            · replace h := h.2 ((is_and is_dec is_dec).f hc)
              refine w_skip ?_
              refine then_norm ?_
              refine w_seq ?_
              refine w_run [0, 0, 0, 0, 0, 0, 0, 0] ?_
              refine t_done [data0, (.int .i64 a1), (.int .i64 m2), (.int .i64 b3), (.func cmpg4 cmpc5), (.bool (((IntKind.wrap .i64 (m2 - a1))) == 1)), .undef, .undef, .undef, .undef, .undef, .undef, .undef, (.bool (((IntKind.wrap .i64 (b3 - m2))) == 1)), .undef, .undef, .undef, .undef, .undef, .undef, .undef, (.int .i64 (IntKind.wrap .i64 ((Int.fdiv (IntKind.wrap .u64 ((IntKind.wrap .i64 (a1 + b3)))) (2 ^ (Min.min (Int.toNat 1) (IntKind.bits .u64))))))), d93, (.int .i64 (IntKind.wrap .i64 ((IntKind.wrap .i64 ((Int.fdiv (IntKind.wrap .u64 ((IntKind.wrap .i64 (a1 + b3)))) (2 ^ (Min.min (Int.toNat 1) (IntKind.bits .u64)))))) + m2))), (.int .i64 start99), (.int .i64 r100), (.bool (decide (start99 < r100))), (.int .i64 (IntKind.wrap .i64 ((IntKind.wrap .i64 ((IntKind.wrap .i64 ((Int.fdiv (IntKind.wrap .u64 ((IntKind.wrap .i64 (a1 + b3)))) (2 ^ (Min.min (Int.toNat 1) (IntKind.bits .u64)))))) + m2)) - 1))), d102, d103, (.int .i64 (IntKind.wrap .i64 ((IntKind.wrap .i64 ((IntKind.wrap .i64 ((Int.fdiv (IntKind.wrap .u64 ((IntKind.wrap .i64 (a1 + b3)))) (2 ^ (Min.min (Int.toNat 1) (IntKind.bits .u64)))))) + m2)) - start99))), (.bool ((decide (start99 < m2)) && (decide (m2 < (IntKind.wrap .i64 ((IntKind.wrap .i64 ((IntKind.wrap .i64 ((Int.fdiv (IntKind.wrap .u64 ((IntKind.wrap .i64 (a1 + b3)))) (2 ^ (Min.min (Int.toNat 1) (IntKind.bits .u64)))))) + m2)) - start99)))))), (.bool ((decide (a1 < start99)) && (decide (start99 < (IntKind.wrap .i64 ((Int.fdiv (IntKind.wrap .u64 ((IntKind.wrap .i64 (a1 + b3)))) (2 ^ (Min.min (Int.toNat 1) (IntKind.bits .u64)))))))))), (.bool ((decide ((IntKind.wrap .i64 ((Int.fdiv (IntKind.wrap .u64 ((IntKind.wrap .i64 (a1 + b3)))) (2 ^ (Min.min (Int.toNat 1) (IntKind.bits .u64)))))) < (IntKind.wrap .i64 ((IntKind.wrap .i64 ((IntKind.wrap .i64 ((Int.fdiv (IntKind.wrap .u64 ((IntKind.wrap .i64 (a1 + b3)))) (2 ^ (Min.min (Int.toNat 1) (IntKind.bits .u64)))))) + m2)) - start99)))) && (decide ((IntKind.wrap .i64 ((IntKind.wrap .i64 ((IntKind.wrap .i64 ((Int.fdiv (IntKind.wrap .u64 ((IntKind.wrap .i64 (a1 + b3)))) (2 ^ (Min.min (Int.toNat 1) (IntKind.bits .u64)))))) + m2)) - start99)) < b3))))] H104 (by kernel_rfl) ?_
              refine then_norm ?_
              refine w_cond (t := ((decide ((IntKind.wrap .i64 ((Int.fdiv (IntKind.wrap .u64 ((IntKind.wrap .i64 (a1 + b3)))) (2 ^ (Min.min (Int.toNat 1) (IntKind.bits .u64)))))) < (IntKind.wrap .i64 ((IntKind.wrap .i64 ((IntKind.wrap .i64 ((Int.fdiv (IntKind.wrap .u64 ((IntKind.wrap .i64 (a1 + b3)))) (2 ^ (Min.min (Int.toNat 1) (IntKind.bits .u64)))))) + m2)) - start99)))) && (decide ((IntKind.wrap .i64 ((IntKind.wrap .i64 ((IntKind.wrap .i64 ((Int.fdiv (IntKind.wrap .u64 ((IntKind.wrap .i64 (a1 + b3)))) (2 ^ (Min.min (Int.toNat 1) (IntKind.bits .u64)))))) + m2)) - start99)) < b3)))) rfl (fun hc => ?_) (fun hc => ?_)
              · replace h := h.1 ((is_and is_dec is_dec).t hc)
                refine w_run [0, 0, 0, 0, 0, 1] ?_
                refine t_call true nslices_symMergeCmpFunc_speculate_planned [data0, (.int .i64 (IntKind.wrap .i64 ((Int.fdiv (IntKind.wrap .u64 ((IntKind.wrap .i64 (a1 + b3)))) (2 ^ (Min.min (Int.toNat 1) (IntKind.bits .u64))))))), (.int .i64 (IntKind.wrap .i64 ((IntKind.wrap .i64 ((IntKind.wrap .i64 ((Int.fdiv (IntKind.wrap .u64 ((IntKind.wrap .i64 (a1 + b3)))) (2 ^ (Min.min (Int.toNat 1) (IntKind.bits .u64)))))) + m2)) - start99))), (.int .i64 b3), (.func cmpg4 cmpc5)] H104 (by kernel_rfl) h ?_
                clear h
                rintro _ H130 ⟨rfl, h⟩
                refine t_done [data0, (.int .i64 a1), (.int .i64 m2), (.int .i64 b3), (.func cmpg4 cmpc5), (.bool (((IntKind.wrap .i64 (m2 - a1))) == 1)), .undef, .undef, .undef, .undef, .undef, .undef, .undef, (.bool (((IntKind.wrap .i64 (b3 - m2))) == 1)), .undef, .undef, .undef, .undef, .undef, .undef, .undef, (.int .i64 (IntKind.wrap .i64 ((Int.fdiv (IntKind.wrap .u64 ((IntKind.wrap .i64 (a1 + b3)))) (2 ^ (Min.min (Int.toNat 1) (IntKind.bits .u64))))))), d93, (.int .i64 (IntKind.wrap .i64 ((IntKind.wrap .i64 ((Int.fdiv (IntKind.wrap .u64 ((IntKind.wrap .i64 (a1 + b3)))) (2 ^ (Min.min (Int.toNat 1) (IntKind.bits .u64)))))) + m2))), (.int .i64 start99), (.int .i64 r100), (.bool (decide (start99 < r100))), (.int .i64 (IntKind.wrap .i64 ((IntKind.wrap .i64 ((IntKind.wrap .i64 ((Int.fdiv (IntKind.wrap .u64 ((IntKind.wrap .i64 (a1 + b3)))) (2 ^ (Min.min (Int.toNat 1) (IntKind.bits .u64)))))) + m2)) - 1))), d102, d103, (.int .i64 (IntKind.wrap .i64 ((IntKind.wrap .i64 ((IntKind.wrap .i64 ((Int.fdiv (IntKind.wrap .u64 ((IntKind.wrap .i64 (a1 + b3)))) (2 ^ (Min.min (Int.toNat 1) (IntKind.bits .u64)))))) + m2)) - start99))), (.bool ((decide (start99 < m2)) && (decide (m2 < (IntKind.wrap .i64 ((IntKind.wrap .i64 ((IntKind.wrap .i64 ((Int.fdiv (IntKind.wrap .u64 ((IntKind.wrap .i64 (a1 + b3)))) (2 ^ (Min.min (Int.toNat 1) (IntKind.bits .u64)))))) + m2)) - start99)))))), (.bool ((decide (a1 < start99)) && (decide (start99 < (IntKind.wrap .i64 ((Int.fdiv (IntKind.wrap .u64 ((IntKind.wrap .i64 (a1 + b3)))) (2 ^ (Min.min (Int.toNat 1) (IntKind.bits .u64)))))))))), (.bool ((decide ((IntKind.wrap .i64 ((Int.fdiv (IntKind.wrap .u64 ((IntKind.wrap .i64 (a1 + b3)))) (2 ^ (Min.min (Int.toNat 1) (IntKind.bits .u64)))))) < (IntKind.wrap .i64 ((IntKind.wrap .i64 ((IntKind.wrap .i64 ((Int.fdiv (IntKind.wrap .u64 ((IntKind.wrap .i64 (a1 + b3)))) (2 ^ (Min.min (Int.toNat 1) (IntKind.bits .u64)))))) + m2)) - start99)))) && (decide ((IntKind.wrap .i64 ((IntKind.wrap .i64 ((IntKind.wrap .i64 ((Int.fdiv (IntKind.wrap .u64 ((IntKind.wrap .i64 (a1 + b3)))) (2 ^ (Min.min (Int.toNat 1) (IntKind.bits .u64)))))) + m2)) - start99)) < b3))))] H130 (by kernel_rfl) ?_
                exact body_norm (vs := []) _ (by kernel_rfl) rfl h
              · replace h := h.2 ((is_and is_dec is_dec).f hc)
                refine w_skip ?_
                exact body_norm (vs := []) _ (by kernel_rfl) rfl h

def rf_slices_rotateCmpFunc_speculate_planned (nslices_swapRangeCmpFunc_speculate_planned : Nat) : RFunc := ⟨5, 9, [],
 ((.seq (.ops [⟨.move (.var 2), none, none, true⟩, ⟨.move (.var 1), none, none, true⟩, ⟨.bin .sub .no (.loc 0) (.loc 1), none, none, true⟩, ⟨.move (.loc 2), none, (some 5), true⟩])
 ((.seq (.ops [⟨.move (.var 3), none, none, true⟩, ⟨.move (.var 2), none, none, true⟩, ⟨.bin .sub .no (.loc 0) (.loc 1), none, none, true⟩, ⟨.move (.loc 2), none, (some 6), true⟩])
 ((.seq (.block 0 (.loop ((.seq ((.seq (.ops [⟨.move (.var 5), none, none, true⟩, ⟨.move (.var 6), none, none, true⟩, ⟨.bin .neq .no (.loc 0) (.loc 1), none, (some 7), true⟩])
 (.cond (.var 7) (.skip) (.exit 0))))
 (.block 1 ((.seq (.ops [⟨.move (.var 5), none, none, true⟩, ⟨.move (.var 6), none, none, true⟩, ⟨.bin .gtr .no (.loc 0) (.loc 1), none, (some 8), true⟩])
 (.cond (.var 8) ((.seq (.ops [⟨.move (.var 0), none, none, true⟩, ⟨.move (.var 2), none, none, true⟩, ⟨.move (.var 5), none, none, true⟩, ⟨.bin .sub .no (.loc 1) (.loc 2), none, none, true⟩, ⟨.move (.var 2), none, none, true⟩, ⟨.move (.var 6), none, none, true⟩, ⟨.move (.var 4), none, none, true⟩, ⟨.callS nslices_swapRangeCmpFunc_speculate_planned [(.loc 0), (.loc 3), (.loc 4), (.loc 5), (.loc 6)], none, none, true⟩])
 (.ops [⟨.move (.var 5), none, none, true⟩, ⟨.move (.var 6), none, none, true⟩, ⟨.bin .sub .no (.loc 0) (.loc 1), none, none, true⟩, ⟨.move (.loc 2), none, (some 5), true⟩]))) ((.seq (.ops [⟨.move (.var 0), none, none, true⟩, ⟨.move (.var 2), none, none, true⟩, ⟨.move (.var 5), none, none, true⟩, ⟨.bin .sub .no (.loc 1) (.loc 2), none, none, true⟩, ⟨.move (.var 2), none, none, true⟩, ⟨.move (.var 6), none, none, true⟩, ⟨.bin .add .no (.loc 4) (.loc 5), none, none, true⟩, ⟨.move (.var 5), none, none, true⟩, ⟨.bin .sub .no (.loc 6) (.loc 7), none, none, true⟩, ⟨.move (.var 5), none, none, true⟩, ⟨.move (.var 4), none, none, true⟩, ⟨.callS nslices_swapRangeCmpFunc_speculate_planned [(.loc 0), (.loc 3), (.loc 8), (.loc 9), (.loc 10)], none, none, true⟩])
 (.ops [⟨.move (.var 6), none, none, true⟩, ⟨.move (.var 5), none, none, true⟩, ⟨.bin .sub .no (.loc 0) (.loc 1), none, none, true⟩, ⟨.move (.loc 2), none, (some 6), true⟩])))))))))))
 (.ops [⟨.move (.var 0), none, none, true⟩, ⟨.move (.var 2), none, none, true⟩, ⟨.move (.var 5), none, none, true⟩, ⟨.bin .sub .no (.loc 1) (.loc 2), none, none, true⟩, ⟨.move (.var 2), none, none, true⟩, ⟨.move (.var 5), none, none, true⟩, ⟨.move (.var 4), none, none, true⟩, ⟨.callS nslices_swapRangeCmpFunc_speculate_planned [(.loc 0), (.loc 3), (.loc 4), (.loc 5), (.loc 6)], none, none, true⟩]))))))), none⟩
theorem v_slices_rotateCmpFunc_speculate_planned {F : Nat → Option RFunc} {me nslices_swapRangeCmpFunc_speculate_planned : Nat} (hF : F me = some (rf_slices_rotateCmpFunc_speculate_planned nslices_swapRangeCmpFunc_speculate_planned)) {fl : Nat} {H : Heap} {Q : AV → Heap → Prop} (data0 : AV) (a1 : Int) (m2 : Int) (b3 : Int) (cmpg4 : Nat) (cmpc5 : List AV)
  (h : ∃ (J6 : Nat → Int → Int → Heap → Prop) (k7 : Nat), J6 k7 (IntKind.wrap .i64 (m2 - a1)) (IntKind.wrap .i64 (b3 - m2)) H ∧ (∀ (m8 : Nat) (i9 : Int) (j10 : Int) (H13 : Heap), J6 m8 i9 j10 H13 → ((i9 ≠ j10) → ((i9 > j10) → Ret F fl nslices_swapRangeCmpFunc_speculate_planned [data0, (.int .i64 (IntKind.wrap .i64 (m2 - i9))), (.int .i64 m2), (.int .i64 j10), (.func cmpg4 cmpc5)] H13 (fun v15 H14 => v15 = .undef ∧ ∃ m16 : Nat, m16 < m8 ∧ J6 m16 (IntKind.wrap .i64 (i9 - j10)) j10 H14)) ∧ (¬(i9 > j10) → Ret F fl nslices_swapRangeCmpFunc_speculate_planned [data0, (.int .i64 (IntKind.wrap .i64 (m2 - i9))), (.int .i64 (IntKind.wrap .i64 ((IntKind.wrap .i64 (m2 + j10)) - i9))), (.int .i64 i9), (.func cmpg4 cmpc5)] H13 (fun v18 H17 => v18 = .undef ∧ ∃ m19 : Nat, m19 < m8 ∧ J6 m19 i9 (IntKind.wrap .i64 (j10 - i9)) H17))) ∧ (¬(i9 ≠ j10) → Ret F fl nslices_swapRangeCmpFunc_speculate_planned [data0, (.int .i64 (IntKind.wrap .i64 (m2 - i9))), (.int .i64 m2), (.int .i64 i9), (.func cmpg4 cmpc5)] H13 (fun v21 H20 => v21 = .undef ∧ Q .undef H20)))) : Ret F fl me [data0, (.int .i64 a1), (.int .i64 m2), (.int .i64 b3), (.func cmpg4 cmpc5)] H Q := by
  refine ret_intro hF rfl ?_
  refine w_seq ?_
  refine w_run [0, 0, 0, 0] ?_
  refine t_done [data0, (.int .i64 a1), (.int .i64 m2), (.int .i64 b3), (.func cmpg4 cmpc5), (.int .i64 (IntKind.wrap .i64 (m2 - a1))), .undef, .undef, .undef] H (by kernel_rfl) ?_
  refine then_norm ?_
  refine w_seq ?_
  refine w_run [0, 0, 0, 0] ?_
  refine t_done [data0, (.int .i64 a1), (.int .i64 m2), (.int .i64 b3), (.func cmpg4 cmpc5), (.int .i64 (IntKind.wrap .i64 (m2 - a1))), (.int .i64 (IntKind.wrap .i64 (b3 - m2))), .undef, .undef] H (by kernel_rfl) ?_
  refine then_norm ?_
  refine w_seq ?_
  refine w_block ?_
  obtain ⟨J6, k7, h0, h⟩ := h
  refine w_loop (I := fun mI EI HI => ∃ (i9 : Int) (j10 : Int) (d11 : AV) (d12 : AV), EI = [data0, (.int .i64 a1), (.int .i64 m2), (.int .i64 b3), (.func cmpg4 cmpc5), (.int .i64 i9), (.int .i64 j10), d11, d12] ∧ J6 mI i9 j10 HI) ?_ k7 ⟨_, _, _, _, rfl, h0⟩
  clear h0
  rintro m8 EI H13 ⟨i9, j10, d11, d12, rfl, hJ⟩
  replace h := h m8 i9 j10 H13 hJ
  clear hJ
  refine w_seq ?_
  refine w_seq ?_
  refine w_run [0, 0, 0] ?_
  refine t_done [data0, (.int .i64 a1), (.int .i64 m2), (.int .i64 b3), (.func cmpg4 cmpc5), (.int .i64 i9), (.int .i64 j10), (.bool ((i9) != j10)), d12] H13 (by kernel_rfl) ?_
  refine then_norm ?_
  refine w_cond (t := ((i9) != j10)) rfl (fun hc => ?_) (fun hc => ?_)
  · replace h := h.1 (is_ne.t hc)
    refine w_skip ?_
    refine then_norm ?_
    refine w_block ?_
    refine w_seq ?_
    refine w_run [0, 0, 0] ?_
    refine t_done [data0, (.int .i64 a1), (.int .i64 m2), (.int .i64 b3), (.func cmpg4 cmpc5), (.int .i64 i9), (.int .i64 j10), (.bool ((i9) != j10)), (.bool (decide (i9 > j10)))] H13 (by kernel_rfl) ?_
    refine then_norm ?_
    refine w_cond (t := (decide (i9 > j10))) rfl (fun hc => ?_) (fun hc => ?_)
    · replace h := h.1 (is_dec.t hc)
      refine w_seq ?_
      refine w_run [0, 0, 0, 0, 0, 0, 0, 1] ?_
      refine t_call true nslices_swapRangeCmpFunc_speculate_planned [data0, (.int .i64 (IntKind.wrap .i64 (m2 - i9))), (.int .i64 m2), (.int .i64 j10), (.func cmpg4 cmpc5)] H13 (by kernel_rfl) h ?_
      clear h
      rintro _ H14 ⟨rfl, h⟩
      refine t_done [data0, (.int .i64 a1), (.int .i64 m2), (.int .i64 b3), (.func cmpg4 cmpc5), (.int .i64 i9), (.int .i64 j10), (.bool ((i9) != j10)), (.bool (decide (i9 > j10)))] H14 (by kernel_rfl) ?_
      refine then_norm ?_
      refine w_run [0, 0, 0, 0] ?_
      refine t_done [data0, (.int .i64 a1), (.int .i64 m2), (.int .i64 b3), (.func cmpg4 cmpc5), (.int .i64 (IntKind.wrap .i64 (i9 - j10))), (.int .i64 j10), (.bool ((i9) != j10)), (.bool (decide (i9 > j10)))] H14 (by kernel_rfl) ?_
      refine block_norm ?_
      obtain ⟨m', hm, h⟩ := h
      refine loop_norm ⟨m', hm, _, _, _, _, rfl, h⟩
    · replace h := h.2 (is_dec.f hc)
      refine w_seq ?_
      refine w_run [0, 0, 0, 0, 0, 0, 0, 0, 0, 0, 0, 1] ?_
      refine t_call true nslices_swapRangeCmpFunc_speculate_planned [data0, (.int .i64 (IntKind.wrap .i64 (m2 - i9))), (.int .i64 (IntKind.wrap .i64 ((IntKind.wrap .i64 (m2 + j10)) - i9))), (.int .i64 i9), (.func cmpg4 cmpc5)] H13 (by kernel_rfl) h ?_
      clear h
      rintro _ H17 ⟨rfl, h⟩
      refine t_done [data0, (.int .i64 a1), (.int .i64 m2), (.int .i64 b3), (.func cmpg4 cmpc5), (.int .i64 i9), (.int .i64 j10), (.bool ((i9) != j10)), (.bool (decide (i9 > j10)))] H17 (by kernel_rfl) ?_
      refine then_norm ?_
      refine w_run [0, 0, 0, 0] ?_
      refine t_done [data0, (.int .i64 a1), (.int .i64 m2), (.int .i64 b3), (.func cmpg4 cmpc5), (.int .i64 i9), (.int .i64 (IntKind.wrap .i64 (j10 - i9))), (.bool ((i9) != j10)), (.bool (decide (i9 > j10)))] H17 (by kernel_rfl) ?_
      refine block_norm ?_
      obtain ⟨m', hm, h⟩ := h
      refine loop_norm ⟨m', hm, _, _, _, _, rfl, h⟩
  · replace h := h.2 (is_ne.f hc)
    refine w_exit ?_
    refine then_exit ?_
    refine loop_exit ?_
    refine block_exit ?_
    refine then_norm ?_
    refine w_run [0, 0, 0, 0, 0, 0, 0, 1] ?_
    refine t_call true nslices_swapRangeCmpFunc_speculate_planned [data0, (.int .i64 (IntKind.wrap .i64 (m2 - i9))), (.int .i64 m2), (.int .i64 i9), (.func cmpg4 cmpc5)] H13 (by kernel_rfl) h ?_
    clear h
    rintro _ H20 ⟨rfl, h⟩
    refine t_done [data0, (.int .i64 a1), (.int .i64 m2), (.int .i64 b3), (.func cmpg4 cmpc5), (.int .i64 i9), (.int .i64 j10), (.bool ((i9) != j10)), d12] H20 (by kernel_rfl) ?_
    exact body_norm (vs := []) _ (by kernel_rfl) rfl h

def rf_slices_swapRangeCmpFunc_speculate_planned : RFunc := ⟨5, 7, [],
 ((.seq (.ops [⟨.move (.k (.int .i64 0)), none, (some 5), true⟩])
 (.block 0 (.loop ((.seq ((.seq (.ops [⟨.move (.var 5), none, none, true⟩, ⟨.move (.var 3), none, none, true⟩, ⟨.bin .lss .no (.loc 0) (.loc 1), none, (some 6), true⟩])
 (.cond (.var 6) (.skip) (.exit 0))))
 ((.seq (.block 1 (.ops [⟨.move (.var 0), none, none, false⟩, ⟨.move (.var 1), none, none, false⟩, ⟨.move (.var 5), none, none, false⟩, ⟨.bin .add .no (.loc 1) (.loc 2), none, none, false⟩, ⟨.move (.var 0), none, none, false⟩, ⟨.move (.var 2), none, none, false⟩, ⟨.move (.var 5), none, none, false⟩, ⟨.bin .add .no (.loc 5) (.loc 6), none, none, false⟩, ⟨.move (.var 0), none, none, false⟩, ⟨.move (.var 2), none, none, false⟩, ⟨.move (.var 5), none, none, false⟩, ⟨.bin .add .no (.loc 9) (.loc 10), none, none, false⟩, ⟨.indexAddr 3 (.loc 8) (.loc 11), none, none, false⟩, ⟨.load (some 3) (.loc 12), none, none, false⟩, ⟨.move (.var 0), none, none, false⟩, ⟨.move (.var 1), none, none, false⟩, ⟨.move (.var 5), none, none, false⟩, ⟨.bin .add .no (.loc 15) (.loc 16), none, none, false⟩, ⟨.indexAddr 3 (.loc 14) (.loc 17), none, none, false⟩, ⟨.load (some 3) (.loc 18), none, none, false⟩, ⟨.indexAddr 3 (.loc 0) (.loc 3), none, none, true⟩, ⟨.store 3 (.loc 20) (.loc 13) [], none, none, true⟩, ⟨.indexAddr 3 (.loc 4) (.loc 7), none, none, true⟩, ⟨.store 3 (.loc 22) (.loc 19) [], none, none, true⟩]))
 (.ops [⟨.move (.var 5), none, none, true⟩, ⟨.bin .add .no (.loc 0) (.k (.int .i64 1)), none, none, true⟩, ⟨.move (.loc 1), none, (some 5), true⟩]))))))))), none⟩
theorem v_slices_swapRangeCmpFunc_speculate_planned {F : Nat → Option RFunc} {me : Nat} (hF : F me = some (rf_slices_swapRangeCmpFunc_speculate_planned )) {fl : Nat} {H : Heap} {Q : AV → Heap → Prop} (data0 : AV) (a1 : Int) (b2 : Int) (n3 : Int) (cmpg4 : Nat) (cmpc5 : List AV)
  (h : ∃ (J6 : Nat → Int → Heap → Prop) (k7 : Nat), J6 k7 0 H ∧ (∀ (m8 : Nat) (i9 : Int) (H11 : Heap), J6 m8 i9 H11 → ((i9 < n3) → ∃ (e12 : Int) (e13 : AV) (e14 : Int), getA H11 3 (some 3) data0 (IntKind.wrap .i64 (b2 + i9)) 0 = some (.agg [(.int .i64 e12), e13, (.int .i64 e14)]) ∧ ∃ (e16 : Int) (e17 : AV) (e18 : Int), getA H11 3 (some 3) data0 (IntKind.wrap .i64 (a1 + i9)) 0 = some (.agg [(.int .i64 e16), e17, (.int .i64 e18)]) ∧ ∃ b20 o21 : Nat, ptrA 3 data0 (IntKind.wrap .i64 (a1 + i9)) = some (b20, o21) ∧ ∃ H22 : Heap, putA fl H11 b20 o21 3 (.agg [(.int .i64 e12), e13, (.int .i64 e14)]) = some H22 ∧ ∃ b23 o24 : Nat, ptrA 3 data0 (IntKind.wrap .i64 (b2 + i9)) = some (b23, o24) ∧ ∃ H25 : Heap, putA fl H22 b23 o24 3 (.agg [(.int .i64 e16), e17, (.int .i64 e18)]) = some H25 ∧ ∃ m26 : Nat, m26 < m8 ∧ J6 m26 (IntKind.wrap .i64 (i9 + 1)) H25) ∧ (¬(i9 < n3) → Q .undef H11))) : Ret F fl me [data0, (.int .i64 a1), (.int .i64 b2), (.int .i64 n3), (.func cmpg4 cmpc5)] H Q := by
  refine ret_intro hF rfl ?_
  refine w_seq ?_
  refine w_run [0] ?_
  refine t_done [data0, (.int .i64 a1), (.int .i64 b2), (.int .i64 n3), (.func cmpg4 cmpc5), (.int .i64 0), .undef] H (by kernel_rfl) ?_
  refine then_norm ?_
  refine w_block ?_
  obtain ⟨J6, k7, h0, h⟩ := h
  refine w_loop (I := fun mI EI HI => ∃ (i9 : Int) (d10 : AV), EI = [data0, (.int .i64 a1), (.int .i64 b2), (.int .i64 n3), (.func cmpg4 cmpc5), (.int .i64 i9), d10] ∧ J6 mI i9 HI) ?_ k7 ⟨_, _, rfl, h0⟩
  clear h0
  rintro m8 EI H11 ⟨i9, d10, rfl, hJ⟩
  replace h := h m8 i9 H11 hJ
  clear hJ
  refine w_seq ?_
  refine w_seq ?_
  refine w_run [0, 0, 0] ?_
  refine t_done [data0, (.int .i64 a1), (.int .i64 b2), (.int .i64 n3), (.func cmpg4 cmpc5), (.int .i64 i9), (.bool (decide (i9 < n3)))] H11 (by kernel_rfl) ?_
  refine then_norm ?_
  refine w_cond (t := (decide (i9 < n3))) rfl (fun hc => ?_) (fun hc => ?_)
  · replace h := h.1 (is_dec.t hc)
    refine w_skip ?_
    refine then_norm ?_
    refine w_seq ?_
    refine w_block ?_
    refine w_run [0, 0, 0, 0, 0, 0, 0, 0, 0, 0, 0, 0, 1, 1, 0, 0, 0, 0, 1, 1, 1, 1, 1, 1] ?_
    obtain ⟨e12, e13, e14, hg15, h⟩ := h
    refine t_idxG false 3 data0 .i64 (IntKind.wrap .i64 (b2 + i9)) H11 (by kernel_rfl) hg15 ?_
    refine t_loadG false (some 3) 3 data0 (IntKind.wrap .i64 (b2 + i9)) 0 (.agg [(.int .i64 e12), e13, (.int .i64 e14)]) H11 (by kernel_rfl) hg15 ?_
    obtain ⟨e16, e17, e18, hg19, h⟩ := h
    refine t_idxG false 3 data0 .i64 (IntKind.wrap .i64 (a1 + i9)) H11 (by kernel_rfl) hg19 ?_
    refine t_loadG false (some 3) 3 data0 (IntKind.wrap .i64 (a1 + i9)) 0 (.agg [(.int .i64 e16), e17, (.int .i64 e18)]) H11 (by kernel_rfl) hg19 ?_
    obtain ⟨b20, o21, hp, h⟩ := h
    refine t_idx true 3 data0 .i64 (IntKind.wrap .i64 (a1 + i9)) b20 o21 H11 (by kernel_rfl) hp ?_
    obtain ⟨H22, hp, h⟩ := h
    refine t_store true 3 b20 o21 (.agg [(.int .i64 e12), e13, (.int .i64 e14)]) H22 H11 (by kernel_rfl) hp ?_
    obtain ⟨b23, o24, hp, h⟩ := h
    refine t_idx true 3 data0 .i64 (IntKind.wrap .i64 (b2 + i9)) b23 o24 H22 (by kernel_rfl) hp ?_
    obtain ⟨H25, hp, h⟩ := h
    refine t_store true 3 b23 o24 (.agg [(.int .i64 e16), e17, (.int .i64 e18)]) H25 H22 (by kernel_rfl) hp ?_
    refine t_done [data0, (.int .i64 a1), (.int .i64 b2), (.int .i64 n3), (.func cmpg4 cmpc5), (.int .i64 i9), (.bool (decide (i9 < n3)))] H25 (by kernel_rfl) ?_
    refine block_norm ?_
    refine then_norm ?_
    refine w_run [0, 0, 0] ?_
    refine t_done [data0, (.int .i64 a1), (.int .i64 b2), (.int .i64 n3), (.func cmpg4 cmpc5), (.int .i64 (IntKind.wrap .i64 (i9 + 1))), (.bool (decide (i9 < n3)))] H25 (by kernel_rfl) ?_
    obtain ⟨m', hm, h⟩ := h
    refine loop_norm ⟨m', hm, _, _, rfl, h⟩
  · replace h := h.2 (is_dec.f hc)
    refine w_exit ?_
    refine then_exit ?_
    refine loop_exit ?_
    refine block_exit ?_
    exact body_norm (vs := []) _ (by kernel_rfl) rfl h

def rf_cmp_Compare_int (ncmp_isNaN_int : Nat) : RFunc := ⟨2, 10, [.var 2],
 ((.seq (.ops [⟨.move (.k (.int .i64 0)), none, (some 2), true⟩])
 ((.seq (.ops [⟨.move (.var 0), none, none, true⟩, ⟨.callS ncmp_isNaN_int [(.loc 0)], none, none, true⟩, ⟨.move (.loc 1), none, (some 3), true⟩])
 ((.seq (.ops [⟨.move (.var 1), none, none, true⟩, ⟨.callS ncmp_isNaN_int [(.loc 0)], none, none, true⟩, ⟨.move (.loc 1), none, (some 5), true⟩])
 ((.seq ((.seq (.ops [⟨.move (.var 3), none, (some 4), true⟩])
 (.cond (.var 4) ((.seq ((.seq (.ops [⟨.move (.var 5), none, (some 6), true⟩])
 (.cond (.var 6) ((.seq (.ops [⟨.move (.k (.int .i64 0)), none, (some 2), true⟩])
 (.ret))) (.skip))))
 ((.seq (.ops [⟨.move (.k (.int .i64 (-1))), none, (some 2), true⟩])
 (.ret))))) (.skip))))
 ((.seq ((.seq (.ops [⟨.move (.var 5), none, (some 7), true⟩])
 (.cond (.var 7) ((.seq (.ops [⟨.move (.k (.int .i64 1)), none, (some 2), true⟩])
 (.ret))) (.skip))))
 ((.seq ((.seq (.ops [⟨.move (.var 0), none, none, true⟩, ⟨.move (.var 1), none, none, true⟩, ⟨.bin .lss .no (.loc 0) (.loc 1), none, (some 8), true⟩])
 (.cond (.var 8) ((.seq (.ops [⟨.move (.k (.int .i64 (-1))), none, (some 2), true⟩])
 (.ret))) (.skip))))
 ((.seq ((.seq (.ops [⟨.move (.var 0), none, none, true⟩, ⟨.move (.var 1), none, none, true⟩, ⟨.bin .gtr .no (.loc 0) (.loc 1), none, (some 9), true⟩])
 (.cond (.var 9) ((.seq (.ops [⟨.move (.k (.int .i64 1)), none, (some 2), true⟩])
 (.ret))) (.skip))))
 ((.seq (.ops [⟨.move (.k (.int .i64 0)), none, (some 2), true⟩])
 (.ret))))))))))))))))), none⟩
theorem v_cmp_Compare_int {F : Nat → Option RFunc} {me ncmp_isNaN_int : Nat} (hF : F me = some (rf_cmp_Compare_int ncmp_isNaN_int)) {fl : Nat} {H : Heap} {Q : AV → Heap → Prop} (x0 : Int) (y1 : Int)
  (h : Ret F fl ncmp_isNaN_int [(.int .i64 x0)] H (fun v4 H3 => ∃ (r2 : Bool), v4 = (.bool r2) ∧ Ret F fl ncmp_isNaN_int [(.int .i64 y1)] H3 (fun v7 H6 => ∃ (r5 : Bool), v7 = (.bool r5) ∧ ((r2 = true) → ((r5 = true) → Q (.int .i64 0) H6) ∧ (¬(r5 = true) → Q (.int .i64 (-1)) H6)) ∧ (¬(r2 = true) → ((r5 = true) → Q (.int .i64 1) H6) ∧ (¬(r5 = true) → ((x0 < y1) → Q (.int .i64 (-1)) H6) ∧ (¬(x0 < y1) → ((x0 > y1) → Q (.int .i64 1) H6) ∧ (¬(x0 > y1) → Q (.int .i64 0) H6))))))) : Ret F fl me [(.int .i64 x0), (.int .i64 y1)] H Q := by
  refine ret_intro hF rfl ?_
  refine w_seq ?_
  refine w_run [0] ?_
  refine t_done [(.int .i64 x0), (.int .i64 y1), (.int .i64 0), .undef, .undef, .undef, .undef, .undef, .undef, .undef] H (by kernel_rfl) ?_
  refine then_norm ?_
  refine w_seq ?_
  refine w_run [0, 1, 0] ?_
  refine t_call true ncmp_isNaN_int [(.int .i64 x0)] H (by kernel_rfl) h ?_
  clear h
  rintro _ H3 ⟨r2, rfl, h⟩
  refine t_done [(.int .i64 x0), (.int .i64 y1), (.int .i64 0), (.bool r2), .undef, .undef, .undef, .undef, .undef, .undef] H3 (by kernel_rfl) ?_
  refine then_norm ?_
  refine w_seq ?_
  refine w_run [0, 1, 0] ?_
  refine t_call true ncmp_isNaN_int [(.int .i64 y1)] H3 (by kernel_rfl) h ?_
  clear h
  rintro _ H6 ⟨r5, rfl, h⟩
  refine t_done [(.int .i64 x0), (.int .i64 y1), (.int .i64 0), (.bool r2), .undef, (.bool r5), .undef, .undef, .undef, .undef] H6 (by kernel_rfl) ?_
  refine then_norm ?_
  refine w_seq ?_
  refine w_seq ?_
  refine w_run [0] ?_
  refine t_done [(.int .i64 x0), (.int .i64 y1), (.int .i64 0), (.bool r2), (.bool r2), (.bool r5), .undef, .undef, .undef, .undef] H6 (by kernel_rfl) ?_
  refine then_norm ?_
  refine w_cond (t := r2) rfl (fun hc => ?_) (fun hc => ?_)
  · replace h := h.1 (is_raw.t hc)
    refine w_seq ?_
    refine w_seq ?_
    refine w_run [0] ?_
    refine t_done [(.int .i64 x0), (.int .i64 y1), (.int .i64 0), (.bool r2), (.bool r2), (.bool r5), (.bool r5), .undef, .undef, .undef] H6 (by kernel_rfl) ?_
    refine then_norm ?_
    refine w_cond (t := r5) rfl (fun hc => ?_) (fun hc => ?_)
    · replace h := h.1 (is_raw.t hc)
      refine w_seq ?_
      refine w_run [0] ?_
      refine t_done [(.int .i64 x0), (.int .i64 y1), (.int .i64 0), (.bool r2), (.bool r2), (.bool r5), (.bool r5), .undef, .undef, .undef] H6 (by kernel_rfl) ?_
      refine then_norm ?_
      refine w_ret ?_
      refine then_ret ?_
      refine then_ret ?_
      exact body_ret (vs := [(.int .i64 0)]) _ (by kernel_rfl) rfl h
    · replace h := h.2 (is_raw.f hc)
      refine w_skip ?_
      refine then_norm ?_
      refine w_seq ?_
      refine w_run [0] ?_
      refine t_done [(.int .i64 x0), (.int .i64 y1), (.int .i64 (-1)), (.bool r2), (.bool r2), (.bool r5), (.bool r5), .undef, .undef, .undef] H6 (by kernel_rfl) ?_
      refine then_norm ?_
      refine w_ret ?_
      refine then_ret ?_
      exact body_ret (vs := [(.int .i64 (-1))]) _ (by kernel_rfl) rfl h
  · replace h := h.2 (is_raw.f hc)
    refine w_skip ?_
    refine then_norm ?_
    refine w_seq ?_
    refine w_seq ?_
    refine w_run [0] ?_
    refine t_done [(.int .i64 x0), (.int .i64 y1), (.int .i64 0), (.bool r2), (.bool r2), (.bool r5), .undef, (.bool r5), .undef, .undef] H6 (by kernel_rfl) ?_
    refine then_norm ?_
    refine w_cond (t := r5) rfl (fun hc => ?_) (fun hc => ?_)
    · replace h := h.1 (is_raw.t hc)
      refine w_seq ?_
      refine w_run [0] ?_
      refine t_done [(.int .i64 x0), (.int .i64 y1), (.int .i64 1), (.bool r2), (.bool r2), (.bool r5), .undef, (.bool r5), .undef, .undef] H6 (by kernel_rfl) ?_
      refine then_norm ?_
      refine w_ret ?_
      refine then_ret ?_
      exact body_ret (vs := [(.int .i64 1)]) _ (by kernel_rfl) rfl h
    · replace h := h.2 (is_raw.f hc)
      refine w_skip ?_
      refine then_norm ?_
      refine w_seq ?_
      refine w_seq ?_
      refine w_run [0, 0, 0] ?_
      refine t_done [(.int .i64 x0), (.int .i64 y1), (.int .i64 0), (.bool r2), (.bool r2), (.bool r5), .undef, (.bool r5), (.bool (decide (x0 < y1))), .undef] H6 (by kernel_rfl) ?_
      refine then_norm ?_
      refine w_cond (t := (decide (x0 < y1))) rfl (fun hc => ?_) (fun hc => ?_)
      · replace h := h.1 (is_dec.t hc)
        refine w_seq ?_
        refine w_run [0] ?_
        refine t_done [(.int .i64 x0), (.int .i64 y1), (.int .i64 (-1)), (.bool r2), (.bool r2), (.bool r5), .undef, (.bool r5), (.bool (decide (x0 < y1))), .undef] H6 (by kernel_rfl) ?_
        refine then_norm ?_
        refine w_ret ?_
        refine then_ret ?_
        exact body_ret (vs := [(.int .i64 (-1))]) _ (by kernel_rfl) rfl h
      · replace h := h.2 (is_dec.f hc)
        refine w_skip ?_
        refine then_norm ?_
        refine w_seq ?_
        refine w_seq ?_
        refine w_run [0, 0, 0] ?_
        refine t_done [(.int .i64 x0), (.int .i64 y1), (.int .i64 0), (.bool r2), (.bool r2), (.bool r5), .undef, (.bool r5), (.bool (decide (x0 < y1))), (.bool (decide (x0 > y1)))] H6 (by kernel_rfl) ?_
        refine then_norm ?_
        refine w_cond (t := (decide (x0 > y1))) rfl (fun hc => ?_) (fun hc => ?_)
        · replace h := h.1 (is_dec.t hc)
          refine w_seq ?_
          refine w_run [0] ?_
          refine t_done [(.int .i64 x0), (.int .i64 y1), (.int .i64 1), (.bool r2), (.bool r2), (.bool r5), .undef, (.bool r5), (.bool (decide (x0 < y1))), (.bool (decide (x0 > y1)))] H6 (by kernel_rfl) ?_
          refine then_norm ?_
          refine w_ret ?_
          refine then_ret ?_
          exact body_ret (vs := [(.int .i64 1)]) _ (by kernel_rfl) rfl h
        · replace h := h.2 (is_dec.f hc)
          refine w_skip ?_
          refine then_norm ?_
          refine w_seq ?_
          refine w_run [0] ?_
          refine t_done [(.int .i64 x0), (.int .i64 y1), (.int .i64 0), (.bool r2), (.bool r2), (.bool r5), .undef, (.bool r5), (.bool (decide (x0 < y1))), (.bool (decide (x0 > y1)))] H6 (by kernel_rfl) ?_
          refine then_norm ?_
          refine w_ret ?_
          exact body_ret (vs := [(.int .i64 0)]) _ (by kernel_rfl) rfl h

def rf_cmp_isNaN_int : RFunc := ⟨1, 2, [.var 1],
 ((.seq (.ops [⟨.move (.k (.bool false)), none, (some 1), true⟩])
 ((.seq (.ops [⟨.move (.var 0), none, none, true⟩, ⟨.move (.var 0), none, none, true⟩, ⟨.bin .neq .no (.loc 0) (.loc 1), none, none, true⟩, ⟨.move (.loc 2), none, (some 1), true⟩])
 (.ret))))), none⟩
theorem v_cmp_isNaN_int {F : Nat → Option RFunc} {me : Nat} (hF : F me = some (rf_cmp_isNaN_int )) {fl : Nat} {H : Heap} {Q : AV → Heap → Prop} (x0 : Int)
  (h : Q (.bool ((x0) != x0)) H) : Ret F fl me [(.int .i64 x0)] H Q := by
  refine ret_intro hF rfl ?_
  refine w_seq ?_
  refine w_run [0] ?_
  refine t_done [(.int .i64 x0), (.bool false)] H (by kernel_rfl) ?_
  refine then_norm ?_
  refine w_seq ?_
  refine w_run [0, 0, 0, 0] ?_
  refine t_done [(.int .i64 x0), (.bool ((x0) != x0))] H (by kernel_rfl) ?_
  refine then_norm ?_
  refine w_ret ?_
  exact body_ret (vs := [(.bool ((x0) != x0))]) _ (by kernel_rfl) rfl h

end Go.RM

