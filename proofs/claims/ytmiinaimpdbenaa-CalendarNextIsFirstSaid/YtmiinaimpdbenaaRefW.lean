/-
  Functions of the program as the abstract machine runs them, and what must be shown of a run: printed by RmPrint.
-/
import Derived.Test.YtmiinaimpdbenaaRmVc
namespace Go.RM
set_option linter.unusedVariables false
set_option maxRecDepth 4000
-- FFault
def rf_FFault : RFunc := ⟨2, 3, [.part 2 (some 2)],
 ((.seq (.ops [⟨.tomb 1 (.k (.agg [.int .i64 0, .int .i64 0])), none, (some 2), true⟩])
 ((.seq (.ops [⟨.move (.var 0), none, none, true⟩, ⟨.move (.var 1), none, none, true⟩, ⟨.build [.int .i64 0, .int .i64 0] [(0, 1, (.loc 0)), (1, 1, (.loc 1))], none, none, true⟩, ⟨.upd 2 0 (.var 2) (.loc 2), none, (some 2), true⟩])
 (.ret)))))⟩
theorem v_FFault {F : Nat → Option RFunc} {me : Nat} (hF : F me = some (rf_FFault )) {fl : Nat} {H : Heap} {Q : AV → Heap → Prop} (code0 : Int) (index1 : Int)
  (h : ∀ (H2 : Heap), Dead1 H 1 H2 → Q (.agg [(.int .i64 code0), (.int .i64 index1)]) H2) : Ret F fl me [(.int .i64 code0), (.int .i64 index1)] H Q := by
  refine ret_intro hF rfl ?_
  refine w_seq ?_
  refine w_run [1] ?_
  obtain ⟨H2, hb⟩ : ∃ H', Dead1 H 1 H' := ⟨_, ⟨rfl⟩⟩
  replace h := h H2 hb
  refine t_tomb true 1 (.agg [(.int .i64 0), (.int .i64 0)]) [(.int .i64 0), (.int .i64 0)] H2 H (by kernel_rfl) rfl hb ?_
  refine t_done [(.int .i64 code0), (.int .i64 index1), (.agg [(.int .i64 0), (.int .i64 0)])] H2 (by kernel_rfl) ?_
  refine then_norm ?_
  refine w_seq ?_
  refine w_run [0, 0, 1, 1] ?_
  refine t_build true [(.int .i64 0), (.int .i64 0)] [(0, 1, .loc 0), (1, 1, .loc 1)] [(.int .i64 code0), (.int .i64 index1)] [(.int .i64 code0), (.int .i64 index1)] H2 (by kernel_rfl) (fill_c (vs := [(.int .i64 code0)]) (size := 1) rfl (by kernel_rfl) (by kernel_rfl) (fill_c (vs := [(.int .i64 index1)]) (size := 1) rfl (by kernel_rfl) (by kernel_rfl) (by kernel_rfl))) ?_
  refine t_upd true 2 0 [(.int .i64 0), (.int .i64 0)] (.agg [(.int .i64 code0), (.int .i64 index1)]) [(.int .i64 code0), (.int .i64 index1)] [(.int .i64 code0), (.int .i64 index1)] H2 (by kernel_rfl) rfl (all_c rfl (all_c rfl all_n)) ⟨rfl, Nat.le_of_ble_eq_true (by kernel_rfl), rfl⟩ ?_
  refine t_done [(.int .i64 code0), (.int .i64 index1), (.agg [(.int .i64 code0), (.int .i64 index1)])] H2 (by kernel_rfl) ?_
  refine then_norm ?_
  refine w_ret ?_
  exact body_ret (vs := [(.agg [(.int .i64 code0), (.int .i64 index1)])]) _ (by kernel_rfl) rfl h

-- FHas
def rf_FHas : RFunc := ⟨2, 6, [.var 2],
 ((.seq (.ops [⟨.move (.k (.bool false)), none, (some 2), true⟩])
 ((.seq ((.seq (.ops [⟨.move (.k (.int .i64 0)), none, (some 3), true⟩])
 (.block 0 (.loop ((.seq ((.seq (.ops [⟨.move (.var 3), none, none, true⟩, ⟨.move (.var 0), none, none, true⟩, ⟨.len (.loc 1), none, none, true⟩, ⟨.bin .lss .no (.loc 0) (.loc 2), none, (some 4), true⟩])
 (.cond (.var 4) (.skip) (.exit 0))))
 ((.seq (.block 1 ((.seq (.ops [⟨.move (.var 0), none, none, true⟩, ⟨.move (.var 3), none, none, true⟩, ⟨.indexAddr 1 (.loc 0) (.loc 1), none, none, true⟩, ⟨.load none (.loc 2), none, none, true⟩, ⟨.move (.var 1), none, none, true⟩, ⟨.bin .eql .no (.loc 3) (.loc 4), none, (some 5), true⟩])
 (.cond (.var 5) ((.seq (.ops [⟨.move (.k (.bool true)), none, (some 2), true⟩])
 (.ret))) (.skip)))))
 (.ops [⟨.move (.var 3), none, none, true⟩, ⟨.bin .add .no (.loc 0) (.k (.int .i64 1)), none, none, true⟩, ⟨.move (.loc 1), none, (some 3), true⟩])))))))))
 ((.seq (.ops [⟨.move (.k (.bool false)), none, (some 2), true⟩])
 (.ret)))))))⟩
theorem v_FHas {F : Nat → Option RFunc} {me : Nat} (hF : F me = some (rf_FHas )) {fl : Nat} {H : Heap} {Q : AV → Heap → Prop} (l0 : AV) (n1 : Int)
  (h : ∃ (J2 : Nat → Int → Prop) (k3 : Nat), J2 k3 0 ∧ (∀ (m4 : Nat) (i6 : Int), J2 m4 i6 → ∃ len9 : Nat, lenA l0 = some len9 ∧ ((i6 < (len9 : Int)) → ∃ (e10 : Int), getA H 1 none l0 i6 0 = some (.int .i64 e10) ∧ ((e10 = n1) → Q (.bool true) H) ∧ (¬(e10 = n1) → ∃ m12 : Nat, m12 < m4 ∧ J2 m12 (IntKind.wrap .i64 (i6 + 1)))) ∧ (¬(i6 < (len9 : Int)) → Q (.bool false) H))) : Ret F fl me [l0, (.int .i64 n1)] H Q := by
  refine ret_intro hF rfl ?_
  refine w_seq ?_
  refine w_run [0] ?_
  refine t_done [l0, (.int .i64 n1), (.bool false), .undef, .undef, .undef] H (by kernel_rfl) ?_
  refine then_norm ?_
  refine w_seq ?_
  refine w_seq ?_
  refine w_run [0] ?_
  refine t_done [l0, (.int .i64 n1), (.bool false), (.int .i64 0), .undef, .undef] H (by kernel_rfl) ?_
  refine then_norm ?_
  refine w_block ?_
  obtain ⟨J2, k3, h0, h⟩ := h
  refine w_loop (I := fun mI EI HI => ∃ (d5 : AV) (i6 : Int) (d7 : AV) (d8 : AV), EI = [l0, (.int .i64 n1), d5, (.int .i64 i6), d7, d8] ∧ H = HI ∧ J2 mI i6) ?_ k3 ⟨_, _, _, _, rfl, rfl, h0⟩
  clear h0
  rintro m4 EI HI ⟨d5, i6, d7, d8, rfl, rfl, hJ⟩
  replace h := h m4 i6  hJ
  clear hJ
  refine w_seq ?_
  refine w_seq ?_
  refine w_run [0, 0, 1, 0] ?_
  obtain ⟨len9, hl, h⟩ := h
  refine t_len true l0 len9 H (by kernel_rfl) hl ?_
  refine t_done [l0, (.int .i64 n1), d5, (.int .i64 i6), (.bool (decide (i6 < (len9 : Int)))), d8] H (by kernel_rfl) ?_
  refine then_norm ?_
  refine w_cond (t := (decide (i6 < (len9 : Int)))) rfl (fun hc => ?_) (fun hc => ?_)
  · replace h := h.1 (is_dec.t hc)
    refine w_skip ?_
    refine then_norm ?_
    refine w_seq ?_
    refine w_block ?_
    refine w_seq ?_
    refine w_run [0, 0, 1, 1, 0, 0] ?_
    obtain ⟨e10, hg11, h⟩ := h
    refine t_idxG true 1 l0 .i64 i6 H (by kernel_rfl) hg11 ?_
    refine t_loadG true none 1 l0 i6 0 (.int .i64 e10) H (by kernel_rfl) hg11 ?_
    refine t_done [l0, (.int .i64 n1), d5, (.int .i64 i6), (.bool (decide (i6 < (len9 : Int)))), (.bool (e10 == n1))] H (by kernel_rfl) ?_
    refine then_norm ?_
    refine w_cond (t := (e10 == n1)) rfl (fun hc => ?_) (fun hc => ?_)
    · replace h := h.1 (is_eq.t hc)
      refine w_seq ?_
      refine w_run [0] ?_
      refine t_done [l0, (.int .i64 n1), (.bool true), (.int .i64 i6), (.bool (decide (i6 < (len9 : Int)))), (.bool (e10 == n1))] H (by kernel_rfl) ?_
      refine then_norm ?_
      refine w_ret ?_
      refine block_ret ?_
      refine then_ret ?_
      refine loop_ret ?_
      refine block_ret ?_
      refine then_ret ?_
      exact body_ret (vs := [(.bool true)]) _ (by kernel_rfl) rfl h
    · replace h := h.2 (is_eq.f hc)
      refine w_skip ?_
      refine block_norm ?_
      refine then_norm ?_
      refine w_run [0, 0, 0] ?_
      refine t_done [l0, (.int .i64 n1), d5, (.int .i64 (IntKind.wrap .i64 (i6 + 1))), (.bool (decide (i6 < (len9 : Int)))), (.bool (e10 == n1))] H (by kernel_rfl) ?_
      obtain ⟨m', hm, h⟩ := h
      refine loop_norm ⟨m', hm, _, _, _, _, rfl, rfl, h⟩
  · replace h := h.2 (is_dec.f hc)
    refine w_exit ?_
    refine then_exit ?_
    refine loop_exit ?_
    refine block_exit ?_
    refine then_norm ?_
    refine w_seq ?_
    refine w_run [0] ?_
    refine t_done [l0, (.int .i64 n1), (.bool false), (.int .i64 i6), (.bool (decide (i6 < (len9 : Int)))), d8] H (by kernel_rfl) ?_
    refine then_norm ?_
    refine w_ret ?_
    exact body_ret (vs := [(.bool false)]) _ (by kernel_rfl) rfl h

-- FWithout
def rf_FWithout : RFunc := ⟨2, 7, [.var 2],
 ((.seq (.ops [⟨.move (.k (.empty)), none, (some 2), true⟩])
 ((.seq (.ops [⟨.move (.k (.empty)), none, (some 6), true⟩])
 ((.seq ((.seq (.ops [⟨.move (.k (.int .i64 0)), none, (some 3), true⟩])
 (.block 0 (.loop ((.seq ((.seq (.ops [⟨.move (.var 3), none, none, true⟩, ⟨.move (.var 0), none, none, true⟩, ⟨.len (.loc 1), none, none, true⟩, ⟨.bin .lss .no (.loc 0) (.loc 2), none, (some 4), true⟩])
 (.cond (.var 4) (.skip) (.exit 0))))
 ((.seq (.block 1 ((.seq (.ops [⟨.move (.var 0), none, none, true⟩, ⟨.move (.var 3), none, none, true⟩, ⟨.indexAddr 1 (.loc 0) (.loc 1), none, none, true⟩, ⟨.load none (.loc 2), none, none, true⟩, ⟨.move (.var 1), none, none, true⟩, ⟨.bin .neq .no (.loc 3) (.loc 4), none, (some 5), true⟩])
 (.cond (.var 5) (.ops [⟨.move (.var 6), none, none, true⟩, ⟨.move (.var 0), none, none, true⟩, ⟨.move (.var 3), none, none, true⟩, ⟨.indexAddr 1 (.loc 1) (.loc 2), none, none, true⟩, ⟨.load none (.loc 3), none, none, true⟩, ⟨.buildSlice 1 [.int .i64 0] [(0, 1, (.loc 4))] 1, none, none, true⟩, ⟨.append 1 8 (.loc 0) (.loc 5), none, none, true⟩, ⟨.move (.loc 6), none, (some 6), true⟩]) (.skip)))))
 (.ops [⟨.move (.var 3), none, none, true⟩, ⟨.bin .add .no (.loc 0) (.k (.int .i64 1)), none, none, true⟩, ⟨.move (.loc 1), none, (some 3), true⟩])))))))))
 ((.seq (.ops [⟨.move (.var 6), none, none, true⟩, ⟨.move (.loc 0), none, (some 2), true⟩])
 (.ret)))))))))⟩
theorem v_FWithout {F : Nat → Option RFunc} {me : Nat} (hF : F me = some (rf_FWithout )) {fl : Nat} {H : Heap} {Q : AV → Heap → Prop} (l0 : AV) (n1 : Int)
  (h : ∃ (J2 : Nat → Int → AV → Heap → Prop) (k3 : Nat), J2 k3 0 .empty H ∧ (∀ (m4 : Nat) (i5 : Int) (out8 : AV) (H9 : Heap), J2 m4 i5 out8 H9 → ∃ len10 : Nat, lenA l0 = some len10 ∧ ((i5 < (len10 : Int)) → ∃ (e11 : Int), getA H9 1 none l0 i5 0 = some (.int .i64 e11) ∧ ((e11 ≠ n1) → ∃ (e13 : Int), getA H9 1 none l0 i5 0 = some (.int .i64 e13) ∧ ∀ (b15 : Nat) (H16 : Heap), NewB H9 1 [(.int .i64 e13)] b15 H16 → ∃ (a17 : AV) (H18 : Heap), appA fl true 1 8 H16 out8 (.slice b15 0 1 (some 1)) = some (a17, H18) ∧ ∃ m19 : Nat, m19 < m4 ∧ J2 m19 (IntKind.wrap .i64 (i5 + 1)) a17 H18) ∧ (¬(e11 ≠ n1) → ∃ m20 : Nat, m20 < m4 ∧ J2 m20 (IntKind.wrap .i64 (i5 + 1)) out8 H9)) ∧ (¬(i5 < (len10 : Int)) → Q out8 H9))) : Ret F fl me [l0, (.int .i64 n1)] H Q := by
  refine ret_intro hF rfl ?_
  refine w_seq ?_
  refine w_run [0] ?_
  refine t_done [l0, (.int .i64 n1), .empty, .undef, .undef, .undef, .undef] H (by kernel_rfl) ?_
  refine then_norm ?_
  refine w_seq ?_
  refine w_run [0] ?_
  refine t_done [l0, (.int .i64 n1), .empty, .undef, .undef, .undef, .empty] H (by kernel_rfl) ?_
  refine then_norm ?_
  refine w_seq ?_
  refine w_seq ?_
  refine w_run [0] ?_
  refine t_done [l0, (.int .i64 n1), .empty, (.int .i64 0), .undef, .undef, .empty] H (by kernel_rfl) ?_
  refine then_norm ?_
  refine w_block ?_
  obtain ⟨J2, k3, h0, h⟩ := h
  refine w_loop (I := fun mI EI HI => ∃ (i5 : Int) (d6 : AV) (d7 : AV) (out8 : AV), EI = [l0, (.int .i64 n1), .empty, (.int .i64 i5), d6, d7, out8] ∧ J2 mI i5 out8 HI) ?_ k3 ⟨_, _, _, _, rfl, h0⟩
  clear h0
  rintro m4 EI H9 ⟨i5, d6, d7, out8, rfl, hJ⟩
  replace h := h m4 i5 out8 H9 hJ
  clear hJ
  refine w_seq ?_
  refine w_seq ?_
  refine w_run [0, 0, 1, 0] ?_
  obtain ⟨len10, hl, h⟩ := h
  refine t_len true l0 len10 H9 (by kernel_rfl) hl ?_
  refine t_done [l0, (.int .i64 n1), .empty, (.int .i64 i5), (.bool (decide (i5 < (len10 : Int)))), d7, out8] H9 (by kernel_rfl) ?_
  refine then_norm ?_
  refine w_cond (t := (decide (i5 < (len10 : Int)))) rfl (fun hc => ?_) (fun hc => ?_)
  · replace h := h.1 (is_dec.t hc)
    refine w_skip ?_
    refine then_norm ?_
    refine w_seq ?_
    refine w_block ?_
    refine w_seq ?_
    refine w_run [0, 0, 1, 1, 0, 0] ?_
    obtain ⟨e11, hg12, h⟩ := h
    refine t_idxG true 1 l0 .i64 i5 H9 (by kernel_rfl) hg12 ?_
    refine t_loadG true none 1 l0 i5 0 (.int .i64 e11) H9 (by kernel_rfl) hg12 ?_
    refine t_done [l0, (.int .i64 n1), .empty, (.int .i64 i5), (.bool (decide (i5 < (len10 : Int)))), (.bool (e11 != n1)), out8] H9 (by kernel_rfl) ?_
    refine then_norm ?_
    refine w_cond (t := (e11 != n1)) rfl (fun hc => ?_) (fun hc => ?_)
    · replace h := h.1 (is_ne.t hc)
      refine w_run [0, 0, 0, 1, 1, 1, 1, 0] ?_
      obtain ⟨e13, hg14, h⟩ := h
      refine t_idxG true 1 l0 .i64 i5 H9 (by kernel_rfl) hg14 ?_
      refine t_loadG true none 1 l0 i5 0 (.int .i64 e13) H9 (by kernel_rfl) hg14 ?_
      obtain ⟨b15, H16, hb⟩ : ∃ b H', NewB H9 1 [(.int .i64 e13)] b H' := ⟨_, _, rfl, rfl⟩
      replace h := h b15 H16 hb
      refine t_bs true 1 [(.int .i64 0)] [(0, 1, .loc 0)] 1 [(.int .i64 e13)] [(.int .i64 e13)] b15 H16 H9 (by kernel_rfl) (fill_c (vs := [(.int .i64 e13)]) (size := 1) rfl (by kernel_rfl) (by kernel_rfl) (by kernel_rfl)) hb ?_
      obtain ⟨a17, H18, ha, h⟩ := h
      refine t_app true 1 8 out8 (.slice b15 0 1 (some 1)) a17 H18 H16 (by kernel_rfl) ha ?_
      refine t_done [l0, (.int .i64 n1), .empty, (.int .i64 i5), (.bool (decide (i5 < (len10 : Int)))), (.bool (e11 != n1)), a17] H18 (by kernel_rfl) ?_
      refine block_norm ?_
      refine then_norm ?_
      refine w_run [0, 0, 0] ?_
      refine t_done [l0, (.int .i64 n1), .empty, (.int .i64 (IntKind.wrap .i64 (i5 + 1))), (.bool (decide (i5 < (len10 : Int)))), (.bool (e11 != n1)), a17] H18 (by kernel_rfl) ?_
      obtain ⟨m', hm, h⟩ := h
      refine loop_norm ⟨m', hm, _, _, _, _, rfl, h⟩
    · replace h := h.2 (is_ne.f hc)
      refine w_skip ?_
      refine block_norm ?_
      refine then_norm ?_
      refine w_run [0, 0, 0] ?_
      refine t_done [l0, (.int .i64 n1), .empty, (.int .i64 (IntKind.wrap .i64 (i5 + 1))), (.bool (decide (i5 < (len10 : Int)))), (.bool (e11 != n1)), out8] H9 (by kernel_rfl) ?_
      obtain ⟨m', hm, h⟩ := h
      refine loop_norm ⟨m', hm, _, _, _, _, rfl, h⟩
  · replace h := h.2 (is_dec.f hc)
    refine w_exit ?_
    refine then_exit ?_
    refine loop_exit ?_
    refine block_exit ?_
    refine then_norm ?_
    refine w_seq ?_
    refine w_run [0, 0] ?_
    refine t_done [l0, (.int .i64 n1), out8, (.int .i64 i5), (.bool (decide (i5 < (len10 : Int)))), d7, out8] H9 (by kernel_rfl) ?_
    refine then_norm ?_
    refine w_ret ?_
    exact body_ret (vs := [out8]) _ (by kernel_rfl) rfl h

-- FEqualInts
def rf_FEqualInts : RFunc := ⟨2, 7, [.var 2],
 ((.seq (.ops [⟨.move (.k (.bool false)), none, (some 2), true⟩])
 ((.seq ((.seq (.ops [⟨.move (.var 0), none, none, true⟩, ⟨.len (.loc 0), none, none, true⟩, ⟨.move (.var 1), none, none, true⟩, ⟨.len (.loc 2), none, none, true⟩, ⟨.bin .neq .no (.loc 1) (.loc 3), none, (some 3), true⟩])
 (.cond (.var 3) ((.seq (.ops [⟨.move (.k (.bool false)), none, (some 2), true⟩])
 (.ret))) (.skip))))
 ((.seq ((.seq (.ops [⟨.move (.k (.int .i64 0)), none, (some 4), true⟩])
 (.block 0 (.loop ((.seq ((.seq (.ops [⟨.move (.var 4), none, none, true⟩, ⟨.move (.var 0), none, none, true⟩, ⟨.len (.loc 1), none, none, true⟩, ⟨.bin .lss .no (.loc 0) (.loc 2), none, (some 5), true⟩])
 (.cond (.var 5) (.skip) (.exit 0))))
 ((.seq (.block 1 ((.seq (.ops [⟨.move (.var 0), none, none, false⟩, ⟨.move (.var 4), none, none, false⟩, ⟨.indexAddr 1 (.loc 0) (.loc 1), none, none, false⟩, ⟨.load none (.loc 2), none, none, false⟩, ⟨.move (.var 1), none, none, false⟩, ⟨.move (.var 4), none, none, false⟩, ⟨.indexAddr 1 (.loc 4) (.loc 5), none, none, false⟩, ⟨.load none (.loc 6), none, none, false⟩, ⟨.bin .neq .no (.loc 3) (.loc 7), none, (some 6), true⟩])
 (.cond (.var 6) ((.seq (.ops [⟨.move (.k (.bool false)), none, (some 2), true⟩])
 (.ret))) (.skip)))))
 (.ops [⟨.move (.var 4), none, none, true⟩, ⟨.bin .add .no (.loc 0) (.k (.int .i64 1)), none, none, true⟩, ⟨.move (.loc 1), none, (some 4), true⟩])))))))))
 ((.seq (.ops [⟨.move (.k (.bool true)), none, (some 2), true⟩])
 (.ret)))))))))⟩
theorem v_FEqualInts {F : Nat → Option RFunc} {me : Nat} (hF : F me = some (rf_FEqualInts )) {fl : Nat} {H : Heap} {Q : AV → Heap → Prop} (a0 : AV) (b1 : AV)
  (h : ∃ len2 : Nat, lenA a0 = some len2 ∧ ∃ len3 : Nat, lenA b1 = some len3 ∧ (((len2 : Int) ≠ (len3 : Int)) → Q (.bool false) H) ∧ (¬((len2 : Int) ≠ (len3 : Int)) → ∃ (J4 : Nat → Int → Prop) (k5 : Nat), J4 k5 0 ∧ (∀ (m6 : Nat) (i8 : Int), J4 m6 i8 → ∃ len11 : Nat, lenA a0 = some len11 ∧ ((i8 < (len11 : Int)) → ∃ (e12 : Int), getA H 1 none a0 i8 0 = some (.int .i64 e12) ∧ ∃ (e14 : Int), getA H 1 none b1 i8 0 = some (.int .i64 e14) ∧ ((e12 ≠ e14) → Q (.bool false) H) ∧ (¬(e12 ≠ e14) → ∃ m16 : Nat, m16 < m6 ∧ J4 m16 (IntKind.wrap .i64 (i8 + 1)))) ∧ (¬(i8 < (len11 : Int)) → Q (.bool true) H)))) : Ret F fl me [a0, b1] H Q := by
  refine ret_intro hF rfl ?_
  refine w_seq ?_
  refine w_run [0] ?_
  refine t_done [a0, b1, (.bool false), .undef, .undef, .undef, .undef] H (by kernel_rfl) ?_
  refine then_norm ?_
  refine w_seq ?_
  refine w_seq ?_
  refine w_run [0, 1, 0, 1, 0] ?_
  obtain ⟨len2, hl, h⟩ := h
  refine t_len true a0 len2 H (by kernel_rfl) hl ?_
  obtain ⟨len3, hl, h⟩ := h
  refine t_len true b1 len3 H (by kernel_rfl) hl ?_
  refine t_done [a0, b1, (.bool false), (.bool ((len2 : Int) != (len3 : Int))), .undef, .undef, .undef] H (by kernel_rfl) ?_
  refine then_norm ?_
  refine w_cond (t := ((len2 : Int) != (len3 : Int))) rfl (fun hc => ?_) (fun hc => ?_)
  · replace h := h.1 (is_ne.t hc)
    refine w_seq ?_
    refine w_run [0] ?_
    refine t_done [a0, b1, (.bool false), (.bool ((len2 : Int) != (len3 : Int))), .undef, .undef, .undef] H (by kernel_rfl) ?_
    refine then_norm ?_
    refine w_ret ?_
    refine then_ret ?_
    exact body_ret (vs := [(.bool false)]) _ (by kernel_rfl) rfl h
  · replace h := h.2 (is_ne.f hc)
    refine w_skip ?_
    refine then_norm ?_
    refine w_seq ?_
    refine w_seq ?_
    refine w_run [0] ?_
    refine t_done [a0, b1, (.bool false), (.bool ((len2 : Int) != (len3 : Int))), (.int .i64 0), .undef, .undef] H (by kernel_rfl) ?_
    refine then_norm ?_
    refine w_block ?_
    obtain ⟨J4, k5, h0, h⟩ := h
    refine w_loop (I := fun mI EI HI => ∃ (d7 : AV) (i8 : Int) (d9 : AV) (d10 : AV), EI = [a0, b1, d7, (.bool ((len2 : Int) != (len3 : Int))), (.int .i64 i8), d9, d10] ∧ H = HI ∧ J4 mI i8) ?_ k5 ⟨_, _, _, _, rfl, rfl, h0⟩
    clear h0
    rintro m6 EI HI ⟨d7, i8, d9, d10, rfl, rfl, hJ⟩
    replace h := h m6 i8  hJ
    clear hJ
    refine w_seq ?_
    refine w_seq ?_
    refine w_run [0, 0, 1, 0] ?_
    obtain ⟨len11, hl, h⟩ := h
    refine t_len true a0 len11 H (by kernel_rfl) hl ?_
    refine t_done [a0, b1, d7, (.bool ((len2 : Int) != (len3 : Int))), (.int .i64 i8), (.bool (decide (i8 < (len11 : Int)))), d10] H (by kernel_rfl) ?_
    refine then_norm ?_
    refine w_cond (t := (decide (i8 < (len11 : Int)))) rfl (fun hc => ?_) (fun hc => ?_)
    · replace h := h.1 (is_dec.t hc)
      refine w_skip ?_
      refine then_norm ?_
      refine w_seq ?_
      refine w_block ?_
      refine w_seq ?_
      refine w_run [0, 0, 1, 1, 0, 0, 1, 1, 0] ?_
      obtain ⟨e12, hg13, h⟩ := h
      refine t_idxG false 1 a0 .i64 i8 H (by kernel_rfl) hg13 ?_
      refine t_loadG false none 1 a0 i8 0 (.int .i64 e12) H (by kernel_rfl) hg13 ?_
      obtain ⟨e14, hg15, h⟩ := h
      refine t_idxG false 1 b1 .i64 i8 H (by kernel_rfl) hg15 ?_
      refine t_loadG false none 1 b1 i8 0 (.int .i64 e14) H (by kernel_rfl) hg15 ?_
      refine t_done [a0, b1, d7, (.bool ((len2 : Int) != (len3 : Int))), (.int .i64 i8), (.bool (decide (i8 < (len11 : Int)))), (.bool (e12 != e14))] H (by kernel_rfl) ?_
      refine then_norm ?_
      refine w_cond (t := (e12 != e14)) rfl (fun hc => ?_) (fun hc => ?_)
      · replace h := h.1 (is_ne.t hc)
        refine w_seq ?_
        refine w_run [0] ?_
        refine t_done [a0, b1, (.bool false), (.bool ((len2 : Int) != (len3 : Int))), (.int .i64 i8), (.bool (decide (i8 < (len11 : Int)))), (.bool (e12 != e14))] H (by kernel_rfl) ?_
        refine then_norm ?_
        refine w_ret ?_
        refine block_ret ?_
        refine then_ret ?_
        refine loop_ret ?_
        refine block_ret ?_
        refine then_ret ?_
        exact body_ret (vs := [(.bool false)]) _ (by kernel_rfl) rfl h
      · replace h := h.2 (is_ne.f hc)
        refine w_skip ?_
        refine block_norm ?_
        refine then_norm ?_
        refine w_run [0, 0, 0] ?_
        refine t_done [a0, b1, d7, (.bool ((len2 : Int) != (len3 : Int))), (.int .i64 (IntKind.wrap .i64 (i8 + 1))), (.bool (decide (i8 < (len11 : Int)))), (.bool (e12 != e14))] H (by kernel_rfl) ?_
        obtain ⟨m', hm, h⟩ := h
        refine loop_norm ⟨m', hm, _, _, _, _, rfl, rfl, h⟩
    · replace h := h.2 (is_dec.f hc)
      refine w_exit ?_
      refine then_exit ?_
      refine loop_exit ?_
      refine block_exit ?_
      refine then_norm ?_
      refine w_seq ?_
      refine w_run [0] ?_
      refine t_done [a0, b1, (.bool true), (.bool ((len2 : Int) != (len3 : Int))), (.int .i64 i8), (.bool (decide (i8 < (len11 : Int)))), d10] H (by kernel_rfl) ?_
      refine then_norm ?_
      refine w_ret ?_
      exact body_ret (vs := [(.bool true)]) _ (by kernel_rfl) rfl h

-- FSetCode
def rf_FSetCode : RFunc := ⟨2, 8, [.var 2],
 ((.seq (.ops [⟨.move (.k (.int .i64 0)), none, (some 2), true⟩])
 ((.seq (.ops [⟨.move (.k (.int .i64 (-1))), none, (some 6), true⟩])
 ((.seq ((.seq (.ops [⟨.move (.k (.int .i64 0)), none, (some 3), true⟩])
 (.block 0 (.loop ((.seq ((.seq (.ops [⟨.move (.var 3), none, none, true⟩, ⟨.move (.var 1), none, none, true⟩, ⟨.len (.loc 1), none, none, true⟩, ⟨.bin .lss .no (.loc 0) (.loc 2), none, (some 4), true⟩])
 (.cond (.var 4) (.skip) (.exit 0))))
 ((.seq (.block 1 ((.seq ((.seq (.ops [⟨.move (.var 1), none, none, true⟩, ⟨.move (.var 3), none, none, true⟩, ⟨.indexAddr 1 (.loc 0) (.loc 1), none, none, true⟩, ⟨.load none (.loc 2), none, none, true⟩, ⟨.bin .lss .no (.loc 3) (.k (.int .i64 0)), none, none, true⟩, ⟨.move (.loc 4), none, none, true⟩, ⟨.move (.var 1), none, none, true⟩, ⟨.move (.var 3), none, none, true⟩, ⟨.indexAddr 1 (.loc 6) (.loc 7), (some (5, false)), none, true⟩, ⟨.load none (.loc 8), (some (5, false)), none, true⟩, ⟨.move (.var 0), none, none, true⟩, ⟨.bin .geq .no (.loc 9) (.loc 10), (some (5, false)), none, true⟩, ⟨.pick (.loc 5) (.k (.bool true)) (.loc 11), none, (some 5), true⟩])
 (.cond (.var 5) ((.seq (.ops [⟨.move (.k (.int .i64 3)), none, (some 2), true⟩])
 (.ret))) (.skip))))
 ((.seq ((.seq (.ops [⟨.move (.var 1), none, none, true⟩, ⟨.move (.var 3), none, none, true⟩, ⟨.indexAddr 1 (.loc 0) (.loc 1), none, none, true⟩, ⟨.load none (.loc 2), none, none, true⟩, ⟨.move (.var 6), none, none, true⟩, ⟨.bin .leq .no (.loc 3) (.loc 4), none, (some 7), true⟩])
 (.cond (.var 7) ((.seq (.ops [⟨.move (.k (.int .i64 5)), none, (some 2), true⟩])
 (.ret))) (.skip))))
 (.ops [⟨.move (.var 1), none, none, true⟩, ⟨.move (.var 3), none, none, true⟩, ⟨.indexAddr 1 (.loc 0) (.loc 1), none, none, true⟩, ⟨.load none (.loc 2), none, none, true⟩, ⟨.move (.loc 3), none, (some 6), true⟩]))))))
 (.ops [⟨.move (.var 3), none, none, true⟩, ⟨.bin .add .no (.loc 0) (.k (.int .i64 1)), none, none, true⟩, ⟨.move (.loc 1), none, (some 3), true⟩])))))))))
 ((.seq (.ops [⟨.move (.k (.int .i64 0)), none, (some 2), true⟩])
 (.ret)))))))))⟩
theorem v_FSetCode {F : Nat → Option RFunc} {me : Nat} (hF : F me = some (rf_FSetCode )) {fl : Nat} {H : Heap} {Q : AV → Heap → Prop} (n0 : Int) (set1 : AV)
  (h : ∃ (J2 : Nat → Int → Int → Prop) (k3 : Nat), J2 k3 0 (-1) ∧ (∀ (m4 : Nat) (i6 : Int) (last9 : Int), J2 m4 i6 last9 → ∃ len11 : Nat, lenA set1 = some len11 ∧ ((i6 < (len11 : Int)) → ∃ (e12 : Int), getA H 1 none set1 i6 0 = some (.int .i64 e12) ∧ ((e12 < 0) → Q (.int .i64 3) H) ∧ (¬(e12 < 0) → ∃ (e14 : Int), getA H 1 none set1 i6 0 = some (.int .i64 e14) ∧ ((e14 ≥ n0) → Q (.int .i64 3) H) ∧ (¬(e14 ≥ n0) → ∃ (e16 : Int), getA H 1 none set1 i6 0 = some (.int .i64 e16) ∧ ((e16 ≤ last9) → Q (.int .i64 5) H) ∧ (¬(e16 ≤ last9) → ∃ (e18 : Int), getA H 1 none set1 i6 0 = some (.int .i64 e18) ∧ ∃ m20 : Nat, m20 < m4 ∧ J2 m20 (IntKind.wrap .i64 (i6 + 1)) e18)))) ∧ (¬(i6 < (len11 : Int)) → Q (.int .i64 0) H))) : Ret F fl me [(.int .i64 n0), set1] H Q := by
  refine ret_intro hF rfl ?_
  refine w_seq ?_
  refine w_run [0] ?_
  refine t_done [(.int .i64 n0), set1, (.int .i64 0), .undef, .undef, .undef, .undef, .undef] H (by kernel_rfl) ?_
  refine then_norm ?_
  refine w_seq ?_
  refine w_run [0] ?_
  refine t_done [(.int .i64 n0), set1, (.int .i64 0), .undef, .undef, .undef, (.int .i64 (-1)), .undef] H (by kernel_rfl) ?_
  refine then_norm ?_
  refine w_seq ?_
  refine w_seq ?_
  refine w_run [0] ?_
  refine t_done [(.int .i64 n0), set1, (.int .i64 0), (.int .i64 0), .undef, .undef, (.int .i64 (-1)), .undef] H (by kernel_rfl) ?_
  refine then_norm ?_
  refine w_block ?_
  obtain ⟨J2, k3, h0, h⟩ := h
  refine w_loop (I := fun mI EI HI => ∃ (d5 : AV) (i6 : Int) (d7 : AV) (d8 : AV) (last9 : Int) (d10 : AV), EI = [(.int .i64 n0), set1, d5, (.int .i64 i6), d7, d8, (.int .i64 last9), d10] ∧ H = HI ∧ J2 mI i6 last9) ?_ k3 ⟨_, _, _, _, _, _, rfl, rfl, h0⟩
  clear h0
  rintro m4 EI HI ⟨d5, i6, d7, d8, last9, d10, rfl, rfl, hJ⟩
  replace h := h m4 i6 last9  hJ
  clear hJ
  refine w_seq ?_
  refine w_seq ?_
  refine w_run [0, 0, 1, 0] ?_
  obtain ⟨len11, hl, h⟩ := h
  refine t_len true set1 len11 H (by kernel_rfl) hl ?_
  refine t_done [(.int .i64 n0), set1, d5, (.int .i64 i6), (.bool (decide (i6 < (len11 : Int)))), d8, (.int .i64 last9), d10] H (by kernel_rfl) ?_
  refine then_norm ?_
  refine w_cond (t := (decide (i6 < (len11 : Int)))) rfl (fun hc => ?_) (fun hc => ?_)
  · replace h := h.1 (is_dec.t hc)
    refine w_skip ?_
    refine then_norm ?_
    refine w_seq ?_
    refine w_block ?_
    refine w_seq ?_
    refine w_seq ?_
    refine w_run [0, 0, 1, 1, 0, 0, 0, 0, 3, 3, 0, 2, 0] ?_
    obtain ⟨e12, hg13, h⟩ := h
    refine t_idxG true 1 set1 .i64 i6 H (by kernel_rfl) hg13 ?_
    refine t_loadG true none 1 set1 i6 0 (.int .i64 e12) H (by kernel_rfl) hg13 ?_
    refine t_gd (decide (e12 < 0)) false (by kernel_rfl) (fun hc => ?_) (fun hc => ?_)
    · replace h := h.2 (is_dec.f hc)
      obtain ⟨e14, hg15, h⟩ := h
      refine t_idxG true 1 set1 .i64 i6 H (by kernel_rfl) hg15 ?_
      refine t_gd false false (by kernel_rfl) (fun _ => ?_) (fun hn => by cases hn)
      refine t_loadG true none 1 set1 i6 0 (.int .i64 e14) H (by kernel_rfl) hg15 ?_
      refine t_gd false false (by kernel_rfl) (fun _ => ?_) (fun hn => by cases hn)
      refine t_done [(.int .i64 n0), set1, d5, (.int .i64 i6), (.bool (decide (i6 < (len11 : Int)))), (.bool (decide (e14 ≥ n0))), (.int .i64 last9), d10] H (by kernel_rfl) ?_
      refine then_norm ?_
      refine w_cond (t := (decide (e14 ≥ n0))) rfl (fun hc => ?_) (fun hc => ?_)
      · replace h := h.1 (is_dec.t hc)
        refine w_seq ?_
        refine w_run [0] ?_
        refine t_done [(.int .i64 n0), set1, (.int .i64 3), (.int .i64 i6), (.bool (decide (i6 < (len11 : Int)))), (.bool (decide (e14 ≥ n0))), (.int .i64 last9), d10] H (by kernel_rfl) ?_
        refine then_norm ?_
        refine w_ret ?_
        refine then_ret ?_
        refine block_ret ?_
        refine then_ret ?_
        refine loop_ret ?_
        refine block_ret ?_
        refine then_ret ?_
        exact body_ret (vs := [(.int .i64 3)]) _ (by kernel_rfl) rfl h
      · replace h := h.2 (is_dec.f hc)
        refine w_skip ?_
        refine then_norm ?_
        refine w_seq ?_
        refine w_seq ?_
        refine w_run [0, 0, 1, 1, 0, 0] ?_
        obtain ⟨e16, hg17, h⟩ := h
        refine t_idxG true 1 set1 .i64 i6 H (by kernel_rfl) hg17 ?_
        refine t_loadG true none 1 set1 i6 0 (.int .i64 e16) H (by kernel_rfl) hg17 ?_
        refine t_done [(.int .i64 n0), set1, d5, (.int .i64 i6), (.bool (decide (i6 < (len11 : Int)))), (.bool (decide (e14 ≥ n0))), (.int .i64 last9), (.bool (decide (e16 ≤ last9)))] H (by kernel_rfl) ?_
        refine then_norm ?_
        refine w_cond (t := (decide (e16 ≤ last9))) rfl (fun hc => ?_) (fun hc => ?_)
        · replace h := h.1 (is_dec.t hc)
          refine w_seq ?_
          refine w_run [0] ?_
          refine t_done [(.int .i64 n0), set1, (.int .i64 5), (.int .i64 i6), (.bool (decide (i6 < (len11 : Int)))), (.bool (decide (e14 ≥ n0))), (.int .i64 last9), (.bool (decide (e16 ≤ last9)))] H (by kernel_rfl) ?_
          refine then_norm ?_
          refine w_ret ?_
          refine then_ret ?_
          refine block_ret ?_
          refine then_ret ?_
          refine loop_ret ?_
          refine block_ret ?_
          refine then_ret ?_
          exact body_ret (vs := [(.int .i64 5)]) _ (by kernel_rfl) rfl h
        · replace h := h.2 (is_dec.f hc)
          refine w_skip ?_
          refine then_norm ?_
          refine w_run [0, 0, 1, 1, 0] ?_
          obtain ⟨e18, hg19, h⟩ := h
          refine t_idxG true 1 set1 .i64 i6 H (by kernel_rfl) hg19 ?_
          refine t_loadG true none 1 set1 i6 0 (.int .i64 e18) H (by kernel_rfl) hg19 ?_
          refine t_done [(.int .i64 n0), set1, d5, (.int .i64 i6), (.bool (decide (i6 < (len11 : Int)))), (.bool (decide (e14 ≥ n0))), (.int .i64 e18), (.bool (decide (e16 ≤ last9)))] H (by kernel_rfl) ?_
          refine block_norm ?_
          refine then_norm ?_
          refine w_run [0, 0, 0] ?_
          refine t_done [(.int .i64 n0), set1, d5, (.int .i64 (IntKind.wrap .i64 (i6 + 1))), (.bool (decide (i6 < (len11 : Int)))), (.bool (decide (e14 ≥ n0))), (.int .i64 e18), (.bool (decide (e16 ≤ last9)))] H (by kernel_rfl) ?_
          obtain ⟨m', hm, h⟩ := h
          refine loop_norm ⟨m', hm, _, _, _, _, _, _, rfl, rfl, h⟩
    · replace h := h.1 (is_dec.t hc)
      refine t_gd true false (by kernel_rfl) (fun hn => by cases hn) (fun _ => ?_)
      refine t_gd true false (by kernel_rfl) (fun hn => by cases hn) (fun _ => ?_)
      refine t_done [(.int .i64 n0), set1, d5, (.int .i64 i6), (.bool (decide (i6 < (len11 : Int)))), (.bool true), (.int .i64 last9), d10] H (by kernel_rfl) ?_
      refine then_norm ?_
      refine w_cond (t := true) rfl (fun _ => ?_) (fun hc => by cases hc)
      refine w_seq ?_
      refine w_run [0] ?_
      refine t_done [(.int .i64 n0), set1, (.int .i64 3), (.int .i64 i6), (.bool (decide (i6 < (len11 : Int)))), (.bool true), (.int .i64 last9), d10] H (by kernel_rfl) ?_
      refine then_norm ?_
      refine w_ret ?_
      refine then_ret ?_
      refine block_ret ?_
      refine then_ret ?_
      refine loop_ret ?_
      refine block_ret ?_
      refine then_ret ?_
      exact body_ret (vs := [(.int .i64 3)]) _ (by kernel_rfl) rfl h
  · replace h := h.2 (is_dec.f hc)
    refine w_exit ?_
    refine then_exit ?_
    refine loop_exit ?_
    refine block_exit ?_
    refine then_norm ?_
    refine w_seq ?_
    refine w_run [0] ?_
    refine t_done [(.int .i64 n0), set1, (.int .i64 0), (.int .i64 i6), (.bool (decide (i6 < (len11 : Int)))), d8, (.int .i64 last9), d10] H (by kernel_rfl) ?_
    refine then_norm ?_
    refine w_ret ?_
    exact body_ret (vs := [(.int .i64 0)]) _ (by kernel_rfl) rfl h

-- FCulpritsFault
def rf_FCulpritsFault (nFFault nFSetCode : Nat) : RFunc := ⟨2, 9, [.part 2 (some 2)],
 ((.seq (.ops [⟨.tomb 1 (.k (.agg [.int .i64 0, .int .i64 0])), none, (some 2), true⟩])
 ((.seq ((.seq (.ops [⟨.move (.var 0), none, none, true⟩, ⟨.bin .lss .no (.loc 0) (.k (.int .i64 0)), none, none, true⟩, ⟨.move (.loc 1), none, none, true⟩, ⟨.move (.var 0), none, none, true⟩, ⟨.bin .gtr .no (.loc 3) (.k (.int .i64 16)), none, none, true⟩, ⟨.pick (.loc 2) (.k (.bool true)) (.loc 4), none, (some 3), true⟩])
 (.cond (.var 3) ((.seq (.ops [⟨.callS nFFault [(.k (.int .i64 3)), (.k (.int .i64 (-1)))], none, none, true⟩, ⟨.upd 2 0 (.var 2) (.loc 0), none, (some 2), true⟩])
 (.ret))) (.skip))))
 ((.seq ((.seq (.ops [⟨.move (.var 1), none, none, true⟩, ⟨.len (.loc 0), none, none, true⟩, ⟨.bin .gtr .no (.loc 1) (.k (.int .i64 8)), none, (some 4), true⟩])
 (.cond (.var 4) ((.seq (.ops [⟨.callS nFFault [(.k (.int .i64 2)), (.k (.int .i64 (-1)))], none, none, true⟩, ⟨.upd 2 0 (.var 2) (.loc 0), none, (some 2), true⟩])
 (.ret))) (.skip))))
 ((.seq ((.seq (.ops [⟨.move (.k (.int .i64 0)), none, (some 5), true⟩])
 (.block 0 (.loop ((.seq ((.seq (.ops [⟨.move (.var 5), none, none, true⟩, ⟨.move (.var 1), none, none, true⟩, ⟨.len (.loc 1), none, none, true⟩, ⟨.bin .lss .no (.loc 0) (.loc 2), none, (some 6), true⟩])
 (.cond (.var 6) (.skip) (.exit 0))))
 ((.seq (.block 1 ((.seq ((.seq (.ops [⟨.move (.var 1), none, none, true⟩, ⟨.move (.var 5), none, none, true⟩, ⟨.indexAddr 1 (.loc 0) (.loc 1), none, none, true⟩, ⟨.load none (.loc 2), none, none, true⟩, ⟨.len (.loc 3), none, none, true⟩, ⟨.bin .eql .no (.loc 4) (.k (.int .i64 0)), none, (some 7), true⟩])
 (.cond (.var 7) ((.seq (.ops [⟨.move (.var 5), none, none, true⟩, ⟨.callS nFFault [(.k (.int .i64 9)), (.loc 0)], none, none, true⟩, ⟨.upd 2 0 (.var 2) (.loc 1), none, (some 2), true⟩])
 (.ret))) (.skip))))
 ((.seq (.ops [⟨.move (.var 0), none, none, true⟩, ⟨.move (.var 1), none, none, true⟩, ⟨.move (.var 5), none, none, true⟩, ⟨.indexAddr 1 (.loc 1) (.loc 2), none, none, true⟩, ⟨.load none (.loc 3), none, none, true⟩, ⟨.callS nFSetCode [(.loc 0), (.loc 4)], none, none, true⟩, ⟨.bin .neq .no (.loc 5) (.k (.int .i64 0)), none, (some 8), true⟩])
 (.cond (.var 8) ((.seq (.ops [⟨.move (.var 0), none, none, true⟩, ⟨.move (.var 1), none, none, true⟩, ⟨.move (.var 5), none, none, true⟩, ⟨.indexAddr 1 (.loc 1) (.loc 2), none, none, true⟩, ⟨.load none (.loc 3), none, none, true⟩, ⟨.callS nFSetCode [(.loc 0), (.loc 4)], none, none, true⟩, ⟨.move (.var 5), none, none, true⟩, ⟨.callS nFFault [(.loc 5), (.loc 6)], none, none, true⟩, ⟨.upd 2 0 (.var 2) (.loc 7), none, (some 2), true⟩])
 (.ret))) (.skip)))))))
 (.ops [⟨.move (.var 5), none, none, true⟩, ⟨.bin .add .no (.loc 0) (.k (.int .i64 1)), none, none, true⟩, ⟨.move (.loc 1), none, (some 5), true⟩])))))))))
 ((.seq (.ops [⟨.callS nFFault [(.k (.int .i64 0)), (.k (.int .i64 0))], none, none, true⟩, ⟨.upd 2 0 (.var 2) (.loc 0), none, (some 2), true⟩])
 (.ret)))))))))))⟩
theorem v_FCulpritsFault {F : Nat → Option RFunc} {me nFFault nFSetCode : Nat} (hF : F me = some (rf_FCulpritsFault nFFault nFSetCode)) {fl : Nat} {H : Heap} {Q : AV → Heap → Prop} (n0 : Int) (culprits1 : AV)
  (h : ∀ (H2 : Heap), Dead1 H 1 H2 → ((((n0 < 0) ∨ (n0 > 16))) → Ret F fl nFFault [(.int .i64 3), (.int .i64 (-1))] H2 (fun v6 H5 => ∃ (r3 : Int) (r4 : Int), v6 = (.agg [(.int .i64 r3), (.int .i64 r4)]) ∧ Q (.agg [(.int .i64 r3), (.int .i64 r4)]) H5)) ∧ (¬(((n0 < 0) ∨ (n0 > 16))) → ∃ len7 : Nat, lenA culprits1 = some len7 ∧ (((len7 : Int) > 8) → Ret F fl nFFault [(.int .i64 2), (.int .i64 (-1))] H2 (fun v11 H10 => ∃ (r8 : Int) (r9 : Int), v11 = (.agg [(.int .i64 r8), (.int .i64 r9)]) ∧ Q (.agg [(.int .i64 r8), (.int .i64 r9)]) H10)) ∧ (¬((len7 : Int) > 8) → ∃ (J12 : Nat → Int → Int → Int → Heap → Prop) (k13 : Nat), J12 k13 0 0 0 H2 ∧ (∀ (m14 : Nat) (v15 : Int) (v16 : Int) (i17 : Int) (H21 : Heap), J12 m14 v15 v16 i17 H21 → ∃ len22 : Nat, lenA culprits1 = some len22 ∧ ((i17 < (len22 : Int)) → ∃ (e23 : AV), getA H21 1 none culprits1 i17 0 = some e23 ∧ ∃ len25 : Nat, lenA e23 = some len25 ∧ (((len25 : Int) = 0) → Ret F fl nFFault [(.int .i64 9), (.int .i64 i17)] H21 (fun v29 H28 => ∃ (r26 : Int) (r27 : Int), v29 = (.agg [(.int .i64 r26), (.int .i64 r27)]) ∧ Q (.agg [(.int .i64 r26), (.int .i64 r27)]) H28)) ∧ (¬((len25 : Int) = 0) → ∃ (e30 : AV), getA H21 1 none culprits1 i17 0 = some e30 ∧ Ret F fl nFSetCode [(.int .i64 n0), e30] H21 (fun v34 H33 => ∃ (r32 : Int), v34 = (.int .i64 r32) ∧ ((r32 ≠ 0) → ∃ (e35 : AV), getA H33 1 none culprits1 i17 0 = some e35 ∧ Ret F fl nFSetCode [(.int .i64 n0), e35] H33 (fun v39 H38 => ∃ (r37 : Int), v39 = (.int .i64 r37) ∧ Ret F fl nFFault [(.int .i64 r37), (.int .i64 i17)] H38 (fun v43 H42 => ∃ (r40 : Int) (r41 : Int), v43 = (.agg [(.int .i64 r40), (.int .i64 r41)]) ∧ Q (.agg [(.int .i64 r40), (.int .i64 r41)]) H42))) ∧ (¬(r32 ≠ 0) → ∃ m44 : Nat, m44 < m14 ∧ J12 m44 v15 v16 (IntKind.wrap .i64 (i17 + 1)) H33)))) ∧ (¬(i17 < (len22 : Int)) → Ret F fl nFFault [(.int .i64 0), (.int .i64 0)] H21 (fun v48 H47 => ∃ (r45 : Int) (r46 : Int), v48 = (.agg [(.int .i64 r45), (.int .i64 r46)]) ∧ Q (.agg [(.int .i64 r45), (.int .i64 r46)]) H47)))))) : Ret F fl me [(.int .i64 n0), culprits1] H Q := by
  refine ret_intro hF rfl ?_
  refine w_seq ?_
  refine w_run [1] ?_
  obtain ⟨H2, hb⟩ : ∃ H', Dead1 H 1 H' := ⟨_, ⟨rfl⟩⟩
  replace h := h H2 hb
  refine t_tomb true 1 (.agg [(.int .i64 0), (.int .i64 0)]) [(.int .i64 0), (.int .i64 0)] H2 H (by kernel_rfl) rfl hb ?_
  refine t_done [(.int .i64 n0), culprits1, (.agg [(.int .i64 0), (.int .i64 0)]), .undef, .undef, .undef, .undef, .undef, .undef] H2 (by kernel_rfl) ?_
  refine then_norm ?_
  refine w_seq ?_
  refine w_seq ?_
  refine w_run [0, 0, 0, 0, 0, 0] ?_
  refine t_done [(.int .i64 n0), culprits1, (.agg [(.int .i64 0), (.int .i64 0)]), (.bool ((decide (n0 < 0)) || (decide (n0 > 16)))), .undef, .undef, .undef, .undef, .undef] H2 (by kernel_rfl) ?_
  refine then_norm ?_
  refine w_cond (t := ((decide (n0 < 0)) || (decide (n0 > 16)))) rfl (fun hc => ?_) (fun hc => ?_)
  · replace h := h.1 ((is_or is_dec is_dec).t hc)
    refine w_seq ?_
    refine w_run [1, 1] ?_
    refine t_call true nFFault [(.int .i64 3), (.int .i64 (-1))] H2 (by kernel_rfl) h ?_
    clear h
    rintro _ H5 ⟨r3, r4, rfl, h⟩
    refine t_upd true 2 0 [(.int .i64 0), (.int .i64 0)] (.agg [(.int .i64 r3), (.int .i64 r4)]) [(.int .i64 r3), (.int .i64 r4)] [(.int .i64 r3), (.int .i64 r4)] H5 (by kernel_rfl) rfl (all_c rfl (all_c rfl all_n)) ⟨rfl, Nat.le_of_ble_eq_true (by kernel_rfl), rfl⟩ ?_
    refine t_done [(.int .i64 n0), culprits1, (.agg [(.int .i64 r3), (.int .i64 r4)]), (.bool ((decide (n0 < 0)) || (decide (n0 > 16)))), .undef, .undef, .undef, .undef, .undef] H5 (by kernel_rfl) ?_
    refine then_norm ?_
    refine w_ret ?_
    refine then_ret ?_
    exact body_ret (vs := [(.agg [(.int .i64 r3), (.int .i64 r4)])]) _ (by kernel_rfl) rfl h
  · replace h := h.2 ((is_or is_dec is_dec).f hc)
    refine w_skip ?_
    refine then_norm ?_
    refine w_seq ?_
    refine w_seq ?_
    refine w_run [0, 1, 0] ?_
    obtain ⟨len7, hl, h⟩ := h
    refine t_len true culprits1 len7 H2 (by kernel_rfl) hl ?_
    refine t_done [(.int .i64 n0), culprits1, (.agg [(.int .i64 0), (.int .i64 0)]), (.bool ((decide (n0 < 0)) || (decide (n0 > 16)))), (.bool (decide ((len7 : Int) > 8))), .undef, .undef, .undef, .undef] H2 (by kernel_rfl) ?_
    refine then_norm ?_
    refine w_cond (t := (decide ((len7 : Int) > 8))) rfl (fun hc => ?_) (fun hc => ?_)
    · replace h := h.1 (is_dec.t hc)
      refine w_seq ?_
      refine w_run [1, 1] ?_
      refine t_call true nFFault [(.int .i64 2), (.int .i64 (-1))] H2 (by kernel_rfl) h ?_
      clear h
      rintro _ H10 ⟨r8, r9, rfl, h⟩
      refine t_upd true 2 0 [(.int .i64 0), (.int .i64 0)] (.agg [(.int .i64 r8), (.int .i64 r9)]) [(.int .i64 r8), (.int .i64 r9)] [(.int .i64 r8), (.int .i64 r9)] H10 (by kernel_rfl) rfl (all_c rfl (all_c rfl all_n)) ⟨rfl, Nat.le_of_ble_eq_true (by kernel_rfl), rfl⟩ ?_
      refine t_done [(.int .i64 n0), culprits1, (.agg [(.int .i64 r8), (.int .i64 r9)]), (.bool ((decide (n0 < 0)) || (decide (n0 > 16)))), (.bool (decide ((len7 : Int) > 8))), .undef, .undef, .undef, .undef] H10 (by kernel_rfl) ?_
      refine then_norm ?_
      refine w_ret ?_
      refine then_ret ?_
      exact body_ret (vs := [(.agg [(.int .i64 r8), (.int .i64 r9)])]) _ (by kernel_rfl) rfl h
    · replace h := h.2 (is_dec.f hc)
      refine w_skip ?_
      refine then_norm ?_
      refine w_seq ?_
      refine w_seq ?_
      refine w_run [0] ?_
      refine t_done [(.int .i64 n0), culprits1, (.agg [(.int .i64 0), (.int .i64 0)]), (.bool ((decide (n0 < 0)) || (decide (n0 > 16)))), (.bool (decide ((len7 : Int) > 8))), (.int .i64 0), .undef, .undef, .undef] H2 (by kernel_rfl) ?_
      refine then_norm ?_
      refine w_block ?_
      obtain ⟨J12, k13, h0, h⟩ := h
      refine w_loop (I := fun mI EI HI => ∃ (v15 : Int) (v16 : Int) (i17 : Int) (d18 : AV) (d19 : AV) (d20 : AV), EI = [(.int .i64 n0), culprits1, (.agg [(.int .i64 v15), (.int .i64 v16)]), (.bool ((decide (n0 < 0)) || (decide (n0 > 16)))), (.bool (decide ((len7 : Int) > 8))), (.int .i64 i17), d18, d19, d20] ∧ J12 mI v15 v16 i17 HI) ?_ k13 ⟨_, _, _, _, _, _, rfl, h0⟩
      clear h0
      rintro m14 EI H21 ⟨v15, v16, i17, d18, d19, d20, rfl, hJ⟩
      replace h := h m14 v15 v16 i17 H21 hJ
      clear hJ
      refine w_seq ?_
      refine w_seq ?_
      refine w_run [0, 0, 1, 0] ?_
      obtain ⟨len22, hl, h⟩ := h
      refine t_len true culprits1 len22 H21 (by kernel_rfl) hl ?_
      refine t_done [(.int .i64 n0), culprits1, (.agg [(.int .i64 v15), (.int .i64 v16)]), (.bool ((decide (n0 < 0)) || (decide (n0 > 16)))), (.bool (decide ((len7 : Int) > 8))), (.int .i64 i17), (.bool (decide (i17 < (len22 : Int)))), d19, d20] H21 (by kernel_rfl) ?_
      refine then_norm ?_
      refine w_cond (t := (decide (i17 < (len22 : Int)))) rfl (fun hc => ?_) (fun hc => ?_)
      · replace h := h.1 (is_dec.t hc)
        refine w_skip ?_
        refine then_norm ?_
        refine w_seq ?_
        refine w_block ?_
        refine w_seq ?_
        refine w_seq ?_
        refine w_run [0, 0, 1, 1, 1, 0] ?_
        obtain ⟨e23, hg24, h⟩ := h
        refine t_idxG true 1 culprits1 .i64 i17 H21 (by kernel_rfl) hg24 ?_
        refine t_loadG true none 1 culprits1 i17 0 e23 H21 (by kernel_rfl) hg24 ?_
        obtain ⟨len25, hl, h⟩ := h
        refine t_len true e23 len25 H21 (by kernel_rfl) hl ?_
        refine t_done [(.int .i64 n0), culprits1, (.agg [(.int .i64 v15), (.int .i64 v16)]), (.bool ((decide (n0 < 0)) || (decide (n0 > 16)))), (.bool (decide ((len7 : Int) > 8))), (.int .i64 i17), (.bool (decide (i17 < (len22 : Int)))), (.bool ((len25 : Int) == 0)), d20] H21 (by kernel_rfl) ?_
        refine then_norm ?_
        refine w_cond (t := ((len25 : Int) == 0)) rfl (fun hc => ?_) (fun hc => ?_)
        · replace h := h.1 (is_eq.t hc)
          refine w_seq ?_
          refine w_run [0, 1, 1] ?_
          refine t_call true nFFault [(.int .i64 9), (.int .i64 i17)] H21 (by kernel_rfl) h ?_
          clear h
          rintro _ H28 ⟨r26, r27, rfl, h⟩
          refine t_upd true 2 0 [(.int .i64 v15), (.int .i64 v16)] (.agg [(.int .i64 r26), (.int .i64 r27)]) [(.int .i64 r26), (.int .i64 r27)] [(.int .i64 r26), (.int .i64 r27)] H28 (by kernel_rfl) rfl (all_c rfl (all_c rfl all_n)) ⟨rfl, Nat.le_of_ble_eq_true (by kernel_rfl), rfl⟩ ?_
          refine t_done [(.int .i64 n0), culprits1, (.agg [(.int .i64 r26), (.int .i64 r27)]), (.bool ((decide (n0 < 0)) || (decide (n0 > 16)))), (.bool (decide ((len7 : Int) > 8))), (.int .i64 i17), (.bool (decide (i17 < (len22 : Int)))), (.bool ((len25 : Int) == 0)), d20] H28 (by kernel_rfl) ?_
          refine then_norm ?_
          refine w_ret ?_
          refine then_ret ?_
          refine block_ret ?_
          refine then_ret ?_
          refine loop_ret ?_
          refine block_ret ?_
          refine then_ret ?_
          exact body_ret (vs := [(.agg [(.int .i64 r26), (.int .i64 r27)])]) _ (by kernel_rfl) rfl h
        · replace h := h.2 (is_eq.f hc)
          refine w_skip ?_
          refine then_norm ?_
          refine w_seq ?_
          refine w_run [0, 0, 0, 1, 1, 1, 0] ?_
          obtain ⟨e30, hg31, h⟩ := h
          refine t_idxG true 1 culprits1 .i64 i17 H21 (by kernel_rfl) hg31 ?_
          refine t_loadG true none 1 culprits1 i17 0 e30 H21 (by kernel_rfl) hg31 ?_
          refine t_call true nFSetCode [(.int .i64 n0), e30] H21 (by kernel_rfl) h ?_
          clear h
          rintro _ H33 ⟨r32, rfl, h⟩
          refine t_done [(.int .i64 n0), culprits1, (.agg [(.int .i64 v15), (.int .i64 v16)]), (.bool ((decide (n0 < 0)) || (decide (n0 > 16)))), (.bool (decide ((len7 : Int) > 8))), (.int .i64 i17), (.bool (decide (i17 < (len22 : Int)))), (.bool ((len25 : Int) == 0)), (.bool (r32 != 0))] H33 (by kernel_rfl) ?_
          refine then_norm ?_
          refine w_cond (t := (r32 != 0)) rfl (fun hc => ?_) (fun hc => ?_)
          · replace h := h.1 (is_ne.t hc)
            refine w_seq ?_
            refine w_run [0, 0, 0, 1, 1, 1, 0, 1, 1] ?_
            obtain ⟨e35, hg36, h⟩ := h
            refine t_idxG true 1 culprits1 .i64 i17 H33 (by kernel_rfl) hg36 ?_
            refine t_loadG true none 1 culprits1 i17 0 e35 H33 (by kernel_rfl) hg36 ?_
            refine t_call true nFSetCode [(.int .i64 n0), e35] H33 (by kernel_rfl) h ?_
            clear h
            rintro _ H38 ⟨r37, rfl, h⟩
            refine t_call true nFFault [(.int .i64 r37), (.int .i64 i17)] H38 (by kernel_rfl) h ?_
            clear h
            rintro _ H42 ⟨r40, r41, rfl, h⟩
            refine t_upd true 2 0 [(.int .i64 v15), (.int .i64 v16)] (.agg [(.int .i64 r40), (.int .i64 r41)]) [(.int .i64 r40), (.int .i64 r41)] [(.int .i64 r40), (.int .i64 r41)] H42 (by kernel_rfl) rfl (all_c rfl (all_c rfl all_n)) ⟨rfl, Nat.le_of_ble_eq_true (by kernel_rfl), rfl⟩ ?_
            refine t_done [(.int .i64 n0), culprits1, (.agg [(.int .i64 r40), (.int .i64 r41)]), (.bool ((decide (n0 < 0)) || (decide (n0 > 16)))), (.bool (decide ((len7 : Int) > 8))), (.int .i64 i17), (.bool (decide (i17 < (len22 : Int)))), (.bool ((len25 : Int) == 0)), (.bool (r32 != 0))] H42 (by kernel_rfl) ?_
            refine then_norm ?_
            refine w_ret ?_
            refine block_ret ?_
            refine then_ret ?_
            refine loop_ret ?_
            refine block_ret ?_
            refine then_ret ?_
            exact body_ret (vs := [(.agg [(.int .i64 r40), (.int .i64 r41)])]) _ (by kernel_rfl) rfl h
          · replace h := h.2 (is_ne.f hc)
            refine w_skip ?_
            refine block_norm ?_
            refine then_norm ?_
            refine w_run [0, 0, 0] ?_
            refine t_done [(.int .i64 n0), culprits1, (.agg [(.int .i64 v15), (.int .i64 v16)]), (.bool ((decide (n0 < 0)) || (decide (n0 > 16)))), (.bool (decide ((len7 : Int) > 8))), (.int .i64 (IntKind.wrap .i64 (i17 + 1))), (.bool (decide (i17 < (len22 : Int)))), (.bool ((len25 : Int) == 0)), (.bool (r32 != 0))] H33 (by kernel_rfl) ?_
            obtain ⟨m', hm, h⟩ := h
            refine loop_norm ⟨m', hm, _, _, _, _, _, _, rfl, h⟩
      · replace h := h.2 (is_dec.f hc)
        refine w_exit ?_
        refine then_exit ?_
        refine loop_exit ?_
        refine block_exit ?_
        refine then_norm ?_
        refine w_seq ?_
        refine w_run [1, 1] ?_
        refine t_call true nFFault [(.int .i64 0), (.int .i64 0)] H21 (by kernel_rfl) h ?_
        clear h
        rintro _ H47 ⟨r45, r46, rfl, h⟩
        refine t_upd true 2 0 [(.int .i64 v15), (.int .i64 v16)] (.agg [(.int .i64 r45), (.int .i64 r46)]) [(.int .i64 r45), (.int .i64 r46)] [(.int .i64 r45), (.int .i64 r46)] H47 (by kernel_rfl) rfl (all_c rfl (all_c rfl all_n)) ⟨rfl, Nat.le_of_ble_eq_true (by kernel_rfl), rfl⟩ ?_
        refine t_done [(.int .i64 n0), culprits1, (.agg [(.int .i64 r45), (.int .i64 r46)]), (.bool ((decide (n0 < 0)) || (decide (n0 > 16)))), (.bool (decide ((len7 : Int) > 8))), (.int .i64 i17), (.bool (decide (i17 < (len22 : Int)))), d19, d20] H47 (by kernel_rfl) ?_
        refine then_norm ?_
        refine w_ret ?_
        exact body_ret (vs := [(.agg [(.int .i64 r45), (.int .i64 r46)])]) _ (by kernel_rfl) rfl h

-- FFailing
def rf_FFailing (nFHas : Nat) : RFunc := ⟨2, 10, [.var 2],
 ((.seq (.ops [⟨.move (.k (.bool false)), none, (some 2), true⟩])
 ((.seq ((.seq (.ops [⟨.move (.k (.int .i64 0)), none, (some 3), true⟩])
 (.block 0 (.loop ((.seq ((.seq (.ops [⟨.move (.var 3), none, none, true⟩, ⟨.move (.var 0), none, none, true⟩, ⟨.len (.loc 1), none, none, true⟩, ⟨.bin .lss .no (.loc 0) (.loc 2), none, (some 4), true⟩])
 (.cond (.var 4) (.skip) (.exit 0))))
 ((.seq (.block 1 ((.seq (.ops [⟨.move (.k (.int .i64 0)), none, (some 8), true⟩])
 ((.seq ((.seq (.ops [⟨.move (.k (.int .i64 0)), none, (some 5), true⟩])
 (.block 2 (.loop ((.seq ((.seq (.ops [⟨.move (.var 5), none, none, true⟩, ⟨.move (.var 0), none, none, true⟩, ⟨.move (.var 3), none, none, true⟩, ⟨.indexAddr 1 (.loc 1) (.loc 2), none, none, true⟩, ⟨.load none (.loc 3), none, none, true⟩, ⟨.len (.loc 4), none, none, true⟩, ⟨.bin .lss .no (.loc 0) (.loc 5), none, (some 6), true⟩])
 (.cond (.var 6) (.skip) (.exit 2))))
 ((.seq (.block 3 ((.seq (.ops [⟨.move (.var 1), none, none, true⟩, ⟨.move (.var 0), none, none, true⟩, ⟨.move (.var 3), none, none, true⟩, ⟨.indexAddr 1 (.loc 1) (.loc 2), none, none, true⟩, ⟨.load none (.loc 3), none, none, true⟩, ⟨.move (.var 5), none, none, true⟩, ⟨.indexAddr 1 (.loc 4) (.loc 5), none, none, true⟩, ⟨.load none (.loc 6), none, none, true⟩, ⟨.callS nFHas [(.loc 0), (.loc 7)], none, none, true⟩, ⟨.un .not (.loc 8), none, (some 7), true⟩])
 (.cond (.var 7) (.ops [⟨.move (.var 8), none, none, true⟩, ⟨.bin .add .no (.loc 0) (.k (.int .i64 1)), none, none, true⟩, ⟨.move (.loc 1), none, (some 8), true⟩]) (.skip)))))
 (.ops [⟨.move (.var 5), none, none, true⟩, ⟨.bin .add .no (.loc 0) (.k (.int .i64 1)), none, none, true⟩, ⟨.move (.loc 1), none, (some 5), true⟩])))))))))
 ((.seq (.ops [⟨.move (.var 8), none, none, true⟩, ⟨.bin .eql .no (.loc 0) (.k (.int .i64 0)), none, (some 9), true⟩])
 (.cond (.var 9) ((.seq (.ops [⟨.move (.k (.bool true)), none, (some 2), true⟩])
 (.ret))) (.skip)))))))))
 (.ops [⟨.move (.var 3), none, none, true⟩, ⟨.bin .add .no (.loc 0) (.k (.int .i64 1)), none, none, true⟩, ⟨.move (.loc 1), none, (some 3), true⟩])))))))))
 ((.seq (.ops [⟨.move (.k (.bool false)), none, (some 2), true⟩])
 (.ret)))))))⟩
theorem v_FFailing {F : Nat → Option RFunc} {me nFHas : Nat} (hF : F me = some (rf_FFailing nFHas)) {fl : Nat} {H : Heap} {Q : AV → Heap → Prop} (culprits0 : AV) (set1 : AV)
  (h : ∃ (J2 : Nat → Int → Heap → Prop) (k3 : Nat), J2 k3 0 H ∧ (∀ (m4 : Nat) (i6 : Int) (H13 : Heap), J2 m4 i6 H13 → ∃ len14 : Nat, lenA culprits0 = some len14 ∧ ((i6 < (len14 : Int)) → ∃ (J15 : Nat → Int → Int → Heap → Prop) (k16 : Nat), J15 k16 0 0 H13 ∧ (∀ (m17 : Nat) (k18 : Int) (missing21 : Int) (H22 : Heap), J15 m17 k18 missing21 H22 → ∃ (e23 : AV), getA H22 1 none culprits0 i6 0 = some e23 ∧ ∃ len25 : Nat, lenA e23 = some len25 ∧ ((k18 < (len25 : Int)) → ∃ (e26 : AV), getA H22 1 none culprits0 i6 0 = some e26 ∧ ∃ (e28 : Int), getA H22 1 none e26 k18 0 = some (.int .i64 e28) ∧ Ret F fl nFHas [set1, (.int .i64 e28)] H22 (fun v32 H31 => ∃ (r30 : Bool), v32 = (.bool r30) ∧ ((¬(r30 = true)) → ∃ m33 : Nat, m33 < m17 ∧ J15 m33 (IntKind.wrap .i64 (k18 + 1)) (IntKind.wrap .i64 (missing21 + 1)) H31) ∧ (¬(¬(r30 = true)) → ∃ m34 : Nat, m34 < m17 ∧ J15 m34 (IntKind.wrap .i64 (k18 + 1)) missing21 H31))) ∧ (¬(k18 < (len25 : Int)) → ((missing21 = 0) → Q (.bool true) H22) ∧ (¬(missing21 = 0) → ∃ m35 : Nat, m35 < m4 ∧ J2 m35 (IntKind.wrap .i64 (i6 + 1)) H22)))) ∧ (¬(i6 < (len14 : Int)) → Q (.bool false) H13))) : Ret F fl me [culprits0, set1] H Q := by
  refine ret_intro hF rfl ?_
  refine w_seq ?_
  refine w_run [0] ?_
  refine t_done [culprits0, set1, (.bool false), .undef, .undef, .undef, .undef, .undef, .undef, .undef] H (by kernel_rfl) ?_
  refine then_norm ?_
  refine w_seq ?_
  refine w_seq ?_
  refine w_run [0] ?_
  refine t_done [culprits0, set1, (.bool false), (.int .i64 0), .undef, .undef, .undef, .undef, .undef, .undef] H (by kernel_rfl) ?_
  refine then_norm ?_
  refine w_block ?_
  obtain ⟨J2, k3, h0, h⟩ := h
  refine w_loop (I := fun mI EI HI => ∃ (d5 : AV) (i6 : Int) (d7 : AV) (d8 : AV) (d9 : AV) (d10 : AV) (d11 : AV) (d12 : AV), EI = [culprits0, set1, d5, (.int .i64 i6), d7, d8, d9, d10, d11, d12] ∧ J2 mI i6 HI) ?_ k3 ⟨_, _, _, _, _, _, _, _, rfl, h0⟩
  clear h0
  rintro m4 EI H13 ⟨d5, i6, d7, d8, d9, d10, d11, d12, rfl, hJ⟩
  replace h := h m4 i6 H13 hJ
  clear hJ
  refine w_seq ?_
  refine w_seq ?_
  refine w_run [0, 0, 1, 0] ?_
  obtain ⟨len14, hl, h⟩ := h
  refine t_len true culprits0 len14 H13 (by kernel_rfl) hl ?_
  refine t_done [culprits0, set1, d5, (.int .i64 i6), (.bool (decide (i6 < (len14 : Int)))), d8, d9, d10, d11, d12] H13 (by kernel_rfl) ?_
  refine then_norm ?_
  refine w_cond (t := (decide (i6 < (len14 : Int)))) rfl (fun hc => ?_) (fun hc => ?_)
  · replace h := h.1 (is_dec.t hc)
    refine w_skip ?_
    refine then_norm ?_
    refine w_seq ?_
    refine w_block ?_
    refine w_seq ?_
    refine w_run [0] ?_
    refine t_done [culprits0, set1, d5, (.int .i64 i6), (.bool (decide (i6 < (len14 : Int)))), d8, d9, d10, (.int .i64 0), d12] H13 (by kernel_rfl) ?_
    refine then_norm ?_
    refine w_seq ?_
    refine w_seq ?_
    refine w_run [0] ?_
    refine t_done [culprits0, set1, d5, (.int .i64 i6), (.bool (decide (i6 < (len14 : Int)))), (.int .i64 0), d9, d10, (.int .i64 0), d12] H13 (by kernel_rfl) ?_
    refine then_norm ?_
    refine w_block ?_
    obtain ⟨J15, k16, h0, h⟩ := h
    refine w_loop (I := fun mI EI HI => ∃ (k18 : Int) (d19 : AV) (d20 : AV) (missing21 : Int), EI = [culprits0, set1, d5, (.int .i64 i6), (.bool (decide (i6 < (len14 : Int)))), (.int .i64 k18), d19, d20, (.int .i64 missing21), d12] ∧ J15 mI k18 missing21 HI) ?_ k16 ⟨_, _, _, _, rfl, h0⟩
    clear h0
    rintro m17 EI H22 ⟨k18, d19, d20, missing21, rfl, hJ⟩
    replace h := h m17 k18 missing21 H22 hJ
    clear hJ
    refine w_seq ?_
    refine w_seq ?_
    refine w_run [0, 0, 0, 1, 1, 1, 0] ?_
    obtain ⟨e23, hg24, h⟩ := h
    refine t_idxG true 1 culprits0 .i64 i6 H22 (by kernel_rfl) hg24 ?_
    refine t_loadG true none 1 culprits0 i6 0 e23 H22 (by kernel_rfl) hg24 ?_
    obtain ⟨len25, hl, h⟩ := h
    refine t_len true e23 len25 H22 (by kernel_rfl) hl ?_
    refine t_done [culprits0, set1, d5, (.int .i64 i6), (.bool (decide (i6 < (len14 : Int)))), (.int .i64 k18), (.bool (decide (k18 < (len25 : Int)))), d20, (.int .i64 missing21), d12] H22 (by kernel_rfl) ?_
    refine then_norm ?_
    refine w_cond (t := (decide (k18 < (len25 : Int)))) rfl (fun hc => ?_) (fun hc => ?_)
    · replace h := h.1 (is_dec.t hc)
      refine w_skip ?_
      refine then_norm ?_
      refine w_seq ?_
      refine w_block ?_
      refine w_seq ?_
      refine w_run [0, 0, 0, 1, 1, 0, 1, 1, 1, 0] ?_
      obtain ⟨e26, hg27, h⟩ := h
      refine t_idxG true 1 culprits0 .i64 i6 H22 (by kernel_rfl) hg27 ?_
      refine t_loadG true none 1 culprits0 i6 0 e26 H22 (by kernel_rfl) hg27 ?_
      obtain ⟨e28, hg29, h⟩ := h
      refine t_idxG true 1 e26 .i64 k18 H22 (by kernel_rfl) hg29 ?_
      refine t_loadG true none 1 e26 k18 0 (.int .i64 e28) H22 (by kernel_rfl) hg29 ?_
      refine t_call true nFHas [set1, (.int .i64 e28)] H22 (by kernel_rfl) h ?_
      clear h
      rintro _ H31 ⟨r30, rfl, h⟩
      refine t_done [culprits0, set1, d5, (.int .i64 i6), (.bool (decide (i6 < (len14 : Int)))), (.int .i64 k18), (.bool (decide (k18 < (len25 : Int)))), (.bool (!r30)), (.int .i64 missing21), d12] H31 (by kernel_rfl) ?_
      refine then_norm ?_
      refine w_cond (t := (!r30)) rfl (fun hc => ?_) (fun hc => ?_)
      · replace h := h.1 ((is_not is_raw).t hc)
        refine w_run [0, 0, 0] ?_
        refine t_done [culprits0, set1, d5, (.int .i64 i6), (.bool (decide (i6 < (len14 : Int)))), (.int .i64 k18), (.bool (decide (k18 < (len25 : Int)))), (.bool (!r30)), (.int .i64 (IntKind.wrap .i64 (missing21 + 1))), d12] H31 (by kernel_rfl) ?_
        refine block_norm ?_
        refine then_norm ?_
        refine w_run [0, 0, 0] ?_
        refine t_done [culprits0, set1, d5, (.int .i64 i6), (.bool (decide (i6 < (len14 : Int)))), (.int .i64 (IntKind.wrap .i64 (k18 + 1))), (.bool (decide (k18 < (len25 : Int)))), (.bool (!r30)), (.int .i64 (IntKind.wrap .i64 (missing21 + 1))), d12] H31 (by kernel_rfl) ?_
        obtain ⟨m', hm, h⟩ := h
        refine loop_norm ⟨m', hm, _, _, _, _, rfl, h⟩
      · replace h := h.2 ((is_not is_raw).f hc)
        refine w_skip ?_
        refine block_norm ?_
        refine then_norm ?_
        refine w_run [0, 0, 0] ?_
        refine t_done [culprits0, set1, d5, (.int .i64 i6), (.bool (decide (i6 < (len14 : Int)))), (.int .i64 (IntKind.wrap .i64 (k18 + 1))), (.bool (decide (k18 < (len25 : Int)))), (.bool (!r30)), (.int .i64 missing21), d12] H31 (by kernel_rfl) ?_
        obtain ⟨m', hm, h⟩ := h
        refine loop_norm ⟨m', hm, _, _, _, _, rfl, h⟩
    · replace h := h.2 (is_dec.f hc)
      refine w_exit ?_
      refine then_exit ?_
      refine loop_exit ?_
      refine block_exit ?_
      refine then_norm ?_
      refine w_seq ?_
      refine w_run [0, 0] ?_
      refine t_done [culprits0, set1, d5, (.int .i64 i6), (.bool (decide (i6 < (len14 : Int)))), (.int .i64 k18), (.bool (decide (k18 < (len25 : Int)))), d20, (.int .i64 missing21), (.bool (missing21 == 0))] H22 (by kernel_rfl) ?_
      refine then_norm ?_
      refine w_cond (t := (missing21 == 0)) rfl (fun hc => ?_) (fun hc => ?_)
      · replace h := h.1 (is_eq.t hc)
        refine w_seq ?_
        refine w_run [0] ?_
        refine t_done [culprits0, set1, (.bool true), (.int .i64 i6), (.bool (decide (i6 < (len14 : Int)))), (.int .i64 k18), (.bool (decide (k18 < (len25 : Int)))), d20, (.int .i64 missing21), (.bool (missing21 == 0))] H22 (by kernel_rfl) ?_
        refine then_norm ?_
        refine w_ret ?_
        refine block_ret ?_
        refine then_ret ?_
        refine loop_ret ?_
        refine block_ret ?_
        refine then_ret ?_
        exact body_ret (vs := [(.bool true)]) _ (by kernel_rfl) rfl h
      · replace h := h.2 (is_eq.f hc)
        refine w_skip ?_
        refine block_norm ?_
        refine then_norm ?_
        refine w_run [0, 0, 0] ?_
        refine t_done [culprits0, set1, d5, (.int .i64 (IntKind.wrap .i64 (i6 + 1))), (.bool (decide (i6 < (len14 : Int)))), (.int .i64 k18), (.bool (decide (k18 < (len25 : Int)))), d20, (.int .i64 missing21), (.bool (missing21 == 0))] H22 (by kernel_rfl) ?_
        obtain ⟨m', hm, h⟩ := h
        refine loop_norm ⟨m', hm, _, _, _, _, _, _, _, _, rfl, h⟩
  · replace h := h.2 (is_dec.f hc)
    refine w_exit ?_
    refine then_exit ?_
    refine loop_exit ?_
    refine block_exit ?_
    refine then_norm ?_
    refine w_seq ?_
    refine w_run [0] ?_
    refine t_done [culprits0, set1, (.bool false), (.int .i64 i6), (.bool (decide (i6 < (len14 : Int)))), d8, d9, d10, d11, d12] H13 (by kernel_rfl) ?_
    refine then_norm ?_
    refine w_ret ?_
    exact body_ret (vs := [(.bool false)]) _ (by kernel_rfl) rfl h

-- FLanded
def rf_FLanded (nFFailing : Nat) : RFunc := ⟨3, 4, [.var 3],
 ((.seq (.ops [⟨.move (.k (.bool false)), none, (some 3), true⟩])
 ((.seq (.ops [⟨.move (.var 0), none, none, true⟩, ⟨.move (.var 1), none, none, true⟩, ⟨.append 1 8 (.k (.empty)) (.loc 1), none, none, true⟩, ⟨.move (.var 2), none, none, true⟩, ⟨.buildSlice 1 [.int .i64 0] [(0, 1, (.loc 3))] 1, none, none, true⟩, ⟨.append 1 8 (.loc 2) (.loc 4), none, none, true⟩, ⟨.callS nFFailing [(.loc 0), (.loc 5)], none, none, true⟩, ⟨.un .not (.loc 6), none, none, true⟩, ⟨.move (.loc 7), none, (some 3), true⟩])
 (.ret)))))⟩
theorem v_FLanded {F : Nat → Option RFunc} {me nFFailing : Nat} (hF : F me = some (rf_FLanded nFFailing)) {fl : Nat} {H : Heap} {Q : AV → Heap → Prop} (culprits0 : AV) (landed1 : AV) (next2 : Int)
  (h : ∃ (a3 : AV) (H4 : Heap), appA fl true 1 8 H .empty landed1 = some (a3, H4) ∧ ∀ (b5 : Nat) (H6 : Heap), NewB H4 1 [(.int .i64 next2)] b5 H6 → ∃ (a7 : AV) (H8 : Heap), appA fl true 1 8 H6 a3 (.slice b5 0 1 (some 1)) = some (a7, H8) ∧ Ret F fl nFFailing [culprits0, a7] H8 (fun v11 H10 => ∃ (r9 : Bool), v11 = (.bool r9) ∧ Q (.bool (!r9)) H10)) : Ret F fl me [culprits0, landed1, (.int .i64 next2)] H Q := by
  refine ret_intro hF rfl ?_
  refine w_seq ?_
  refine w_run [0] ?_
  refine t_done [culprits0, landed1, (.int .i64 next2), (.bool false)] H (by kernel_rfl) ?_
  refine then_norm ?_
  refine w_seq ?_
  refine w_run [0, 0, 1, 0, 1, 1, 1, 0, 0] ?_
  obtain ⟨a3, H4, ha, h⟩ := h
  refine t_app true 1 8 .empty landed1 a3 H4 H (by kernel_rfl) ha ?_
  obtain ⟨b5, H6, hb⟩ : ∃ b H', NewB H4 1 [(.int .i64 next2)] b H' := ⟨_, _, rfl, rfl⟩
  replace h := h b5 H6 hb
  refine t_bs true 1 [(.int .i64 0)] [(0, 1, .loc 0)] 1 [(.int .i64 next2)] [(.int .i64 next2)] b5 H6 H4 (by kernel_rfl) (fill_c (vs := [(.int .i64 next2)]) (size := 1) rfl (by kernel_rfl) (by kernel_rfl) (by kernel_rfl)) hb ?_
  obtain ⟨a7, H8, ha, h⟩ := h
  refine t_app true 1 8 a3 (.slice b5 0 1 (some 1)) a7 H8 H6 (by kernel_rfl) ha ?_
  refine t_call true nFFailing [culprits0, a7] H8 (by kernel_rfl) h ?_
  clear h
  rintro _ H10 ⟨r9, rfl, h⟩
  refine t_done [culprits0, landed1, (.int .i64 next2), (.bool (!r9))] H10 (by kernel_rfl) ?_
  refine then_norm ?_
  refine w_ret ?_
  exact body_ret (vs := [(.bool (!r9))]) _ (by kernel_rfl) rfl h

-- FFirstFailing
def rf_FFirstFailing (nFFirst nFFailing : Nat) : RFunc := ⟨3, 7, [.var 3],
 ((.seq (.ops [⟨.move (.k (.int .i64 0)), none, (some 3), true⟩])
 ((.seq ((.seq (.ops [⟨.move (.k (.int .i64 0)), none, (some 4), true⟩])
 (.block 0 (.loop ((.seq ((.seq (.ops [⟨.move (.var 4), none, none, true⟩, ⟨.move (.var 0), none, none, true⟩, ⟨.bin .lss .no (.loc 0) (.loc 1), none, (some 5), true⟩])
 (.cond (.var 5) (.skip) (.exit 0))))
 ((.seq (.block 1 ((.seq (.ops [⟨.move (.var 1), none, none, true⟩, ⟨.move (.var 4), none, none, true⟩, ⟨.bin .add .no (.loc 1) (.k (.int .i64 1)), none, none, true⟩, ⟨.callS nFFirst [(.loc 2)], none, none, true⟩, ⟨.move (.var 2), none, none, true⟩, ⟨.append 1 8 (.loc 3) (.loc 4), none, none, true⟩, ⟨.callS nFFailing [(.loc 0), (.loc 5)], none, (some 6), true⟩])
 (.cond (.var 6) ((.seq (.ops [⟨.move (.var 4), none, none, true⟩, ⟨.move (.loc 0), none, (some 3), true⟩])
 (.ret))) (.skip)))))
 (.ops [⟨.move (.var 4), none, none, true⟩, ⟨.bin .add .no (.loc 0) (.k (.int .i64 1)), none, none, true⟩, ⟨.move (.loc 1), none, (some 4), true⟩])))))))))
 ((.seq (.ops [⟨.move (.k (.int .i64 (-1))), none, (some 3), true⟩])
 (.ret)))))))⟩
theorem v_FFirstFailing {F : Nat → Option RFunc} {me nFFirst nFFailing : Nat} (hF : F me = some (rf_FFirstFailing nFFirst nFFailing)) {fl : Nat} {H : Heap} {Q : AV → Heap → Prop} (n0 : Int) (culprits1 : AV) (others2 : AV)
  (h : ∃ (J3 : Nat → Int → Heap → Prop) (k4 : Nat), J3 k4 0 H ∧ (∀ (m5 : Nat) (c7 : Int) (H10 : Heap), J3 m5 c7 H10 → ((c7 < n0) → Ret F fl nFFirst [(.int .i64 (IntKind.wrap .i64 (c7 + 1)))] H10 (fun r11 H12 => ∃ (a14 : AV) (H15 : Heap), appA fl true 1 8 H12 r11 others2 = some (a14, H15) ∧ Ret F fl nFFailing [culprits1, a14] H15 (fun v18 H17 => ∃ (r16 : Bool), v18 = (.bool r16) ∧ ((r16 = true) → Q (.int .i64 c7) H17) ∧ (¬(r16 = true) → ∃ m19 : Nat, m19 < m5 ∧ J3 m19 (IntKind.wrap .i64 (c7 + 1)) H17)))) ∧ (¬(c7 < n0) → Q (.int .i64 (-1)) H10))) : Ret F fl me [(.int .i64 n0), culprits1, others2] H Q := by
  refine ret_intro hF rfl ?_
  refine w_seq ?_
  refine w_run [0] ?_
  refine t_done [(.int .i64 n0), culprits1, others2, (.int .i64 0), .undef, .undef, .undef] H (by kernel_rfl) ?_
  refine then_norm ?_
  refine w_seq ?_
  refine w_seq ?_
  refine w_run [0] ?_
  refine t_done [(.int .i64 n0), culprits1, others2, (.int .i64 0), (.int .i64 0), .undef, .undef] H (by kernel_rfl) ?_
  refine then_norm ?_
  refine w_block ?_
  obtain ⟨J3, k4, h0, h⟩ := h
  refine w_loop (I := fun mI EI HI => ∃ (d6 : AV) (c7 : Int) (d8 : AV) (d9 : AV), EI = [(.int .i64 n0), culprits1, others2, d6, (.int .i64 c7), d8, d9] ∧ J3 mI c7 HI) ?_ k4 ⟨_, _, _, _, rfl, h0⟩
  clear h0
  rintro m5 EI H10 ⟨d6, c7, d8, d9, rfl, hJ⟩
  replace h := h m5 c7 H10 hJ
  clear hJ
  refine w_seq ?_
  refine w_seq ?_
  refine w_run [0, 0, 0] ?_
  refine t_done [(.int .i64 n0), culprits1, others2, d6, (.int .i64 c7), (.bool (decide (c7 < n0))), d9] H10 (by kernel_rfl) ?_
  refine then_norm ?_
  refine w_cond (t := (decide (c7 < n0))) rfl (fun hc => ?_) (fun hc => ?_)
  · replace h := h.1 (is_dec.t hc)
    refine w_skip ?_
    refine then_norm ?_
    refine w_seq ?_
    refine w_block ?_
    refine w_seq ?_
    refine w_run [0, 0, 0, 1, 0, 1, 1] ?_
    refine t_call true nFFirst [(.int .i64 (IntKind.wrap .i64 (c7 + 1)))] H10 (by kernel_rfl) h ?_
    clear h
    rintro r11 H12 h
    obtain ⟨a14, H15, ha, h⟩ := h
    refine t_app true 1 8 r11 others2 a14 H15 H12 (by kernel_rfl) ha ?_
    refine t_call true nFFailing [culprits1, a14] H15 (by kernel_rfl) h ?_
    clear h
    rintro _ H17 ⟨r16, rfl, h⟩
    refine t_done [(.int .i64 n0), culprits1, others2, d6, (.int .i64 c7), (.bool (decide (c7 < n0))), (.bool r16)] H17 (by kernel_rfl) ?_
    refine then_norm ?_
    refine w_cond (t := r16) rfl (fun hc => ?_) (fun hc => ?_)
    · replace h := h.1 (is_raw.t hc)
      refine w_seq ?_
      refine w_run [0, 0] ?_
      refine t_done [(.int .i64 n0), culprits1, others2, (.int .i64 c7), (.int .i64 c7), (.bool (decide (c7 < n0))), (.bool r16)] H17 (by kernel_rfl) ?_
      refine then_norm ?_
      refine w_ret ?_
      refine block_ret ?_
      refine then_ret ?_
      refine loop_ret ?_
      refine block_ret ?_
      refine then_ret ?_
      exact body_ret (vs := [(.int .i64 c7)]) _ (by kernel_rfl) rfl h
    · replace h := h.2 (is_raw.f hc)
      refine w_skip ?_
      refine block_norm ?_
      refine then_norm ?_
      refine w_run [0, 0, 0] ?_
      refine t_done [(.int .i64 n0), culprits1, others2, d6, (.int .i64 (IntKind.wrap .i64 (c7 + 1))), (.bool (decide (c7 < n0))), (.bool r16)] H17 (by kernel_rfl) ?_
      obtain ⟨m', hm, h⟩ := h
      refine loop_norm ⟨m', hm, _, _, _, _, rfl, h⟩
  · replace h := h.2 (is_dec.f hc)
    refine w_exit ?_
    refine then_exit ?_
    refine loop_exit ?_
    refine block_exit ?_
    refine then_norm ?_
    refine w_seq ?_
    refine w_run [0] ?_
    refine t_done [(.int .i64 n0), culprits1, others2, (.int .i64 (-1)), (.int .i64 c7), (.bool (decide (c7 < n0))), d9] H10 (by kernel_rfl) ?_
    refine then_norm ?_
    refine w_ret ?_
    exact body_ret (vs := [(.int .i64 (-1))]) _ (by kernel_rfl) rfl h

-- FFirst
def rf_FFirst : RFunc := ⟨1, 5, [.var 1],
 ((.seq (.ops [⟨.move (.k (.empty)), none, (some 1), true⟩])
 ((.seq (.ops [⟨.move (.k (.empty)), none, (some 4), true⟩])
 ((.seq ((.seq (.ops [⟨.move (.k (.int .i64 0)), none, (some 2), true⟩])
 (.block 0 (.loop ((.seq ((.seq (.ops [⟨.move (.var 2), none, none, true⟩, ⟨.move (.var 0), none, none, true⟩, ⟨.bin .lss .no (.loc 0) (.loc 1), none, (some 3), true⟩])
 (.cond (.var 3) (.skip) (.exit 0))))
 ((.seq (.block 1 (.ops [⟨.move (.var 4), none, none, true⟩, ⟨.move (.var 2), none, none, true⟩, ⟨.buildSlice 1 [.int .i64 0] [(0, 1, (.loc 1))] 1, none, none, true⟩, ⟨.append 1 8 (.loc 0) (.loc 2), none, none, true⟩, ⟨.move (.loc 3), none, (some 4), true⟩]))
 (.ops [⟨.move (.var 2), none, none, true⟩, ⟨.bin .add .no (.loc 0) (.k (.int .i64 1)), none, none, true⟩, ⟨.move (.loc 1), none, (some 2), true⟩])))))))))
 ((.seq (.ops [⟨.move (.var 4), none, none, true⟩, ⟨.move (.loc 0), none, (some 1), true⟩])
 (.ret)))))))))⟩
theorem v_FFirst {F : Nat → Option RFunc} {me : Nat} (hF : F me = some (rf_FFirst )) {fl : Nat} {H : Heap} {Q : AV → Heap → Prop} (n0 : Int)
  (h : ∃ (J1 : Nat → Int → AV → Heap → Prop) (k2 : Nat), J1 k2 0 .empty H ∧ (∀ (m3 : Nat) (i4 : Int) (out6 : AV) (H7 : Heap), J1 m3 i4 out6 H7 → ((i4 < n0) → ∀ (b8 : Nat) (H9 : Heap), NewB H7 1 [(.int .i64 i4)] b8 H9 → ∃ (a10 : AV) (H11 : Heap), appA fl true 1 8 H9 out6 (.slice b8 0 1 (some 1)) = some (a10, H11) ∧ ∃ m12 : Nat, m12 < m3 ∧ J1 m12 (IntKind.wrap .i64 (i4 + 1)) a10 H11) ∧ (¬(i4 < n0) → Q out6 H7))) : Ret F fl me [(.int .i64 n0)] H Q := by
  refine ret_intro hF rfl ?_
  refine w_seq ?_
  refine w_run [0] ?_
  refine t_done [(.int .i64 n0), .empty, .undef, .undef, .undef] H (by kernel_rfl) ?_
  refine then_norm ?_
  refine w_seq ?_
  refine w_run [0] ?_
  refine t_done [(.int .i64 n0), .empty, .undef, .undef, .empty] H (by kernel_rfl) ?_
  refine then_norm ?_
  refine w_seq ?_
  refine w_seq ?_
  refine w_run [0] ?_
  refine t_done [(.int .i64 n0), .empty, (.int .i64 0), .undef, .empty] H (by kernel_rfl) ?_
  refine then_norm ?_
  refine w_block ?_
  obtain ⟨J1, k2, h0, h⟩ := h
  refine w_loop (I := fun mI EI HI => ∃ (i4 : Int) (d5 : AV) (out6 : AV), EI = [(.int .i64 n0), .empty, (.int .i64 i4), d5, out6] ∧ J1 mI i4 out6 HI) ?_ k2 ⟨_, _, _, rfl, h0⟩
  clear h0
  rintro m3 EI H7 ⟨i4, d5, out6, rfl, hJ⟩
  replace h := h m3 i4 out6 H7 hJ
  clear hJ
  refine w_seq ?_
  refine w_seq ?_
  refine w_run [0, 0, 0] ?_
  refine t_done [(.int .i64 n0), .empty, (.int .i64 i4), (.bool (decide (i4 < n0))), out6] H7 (by kernel_rfl) ?_
  refine then_norm ?_
  refine w_cond (t := (decide (i4 < n0))) rfl (fun hc => ?_) (fun hc => ?_)
  · replace h := h.1 (is_dec.t hc)
    refine w_skip ?_
    refine then_norm ?_
    refine w_seq ?_
    refine w_block ?_
    refine w_run [0, 0, 1, 1, 0] ?_
    obtain ⟨b8, H9, hb⟩ : ∃ b H', NewB H7 1 [(.int .i64 i4)] b H' := ⟨_, _, rfl, rfl⟩
    replace h := h b8 H9 hb
    refine t_bs true 1 [(.int .i64 0)] [(0, 1, .loc 0)] 1 [(.int .i64 i4)] [(.int .i64 i4)] b8 H9 H7 (by kernel_rfl) (fill_c (vs := [(.int .i64 i4)]) (size := 1) rfl (by kernel_rfl) (by kernel_rfl) (by kernel_rfl)) hb ?_
    obtain ⟨a10, H11, ha, h⟩ := h
    refine t_app true 1 8 out6 (.slice b8 0 1 (some 1)) a10 H11 H9 (by kernel_rfl) ha ?_
    refine t_done [(.int .i64 n0), .empty, (.int .i64 i4), (.bool (decide (i4 < n0))), a10] H11 (by kernel_rfl) ?_
    refine block_norm ?_
    refine then_norm ?_
    refine w_run [0, 0, 0] ?_
    refine t_done [(.int .i64 n0), .empty, (.int .i64 (IntKind.wrap .i64 (i4 + 1))), (.bool (decide (i4 < n0))), a10] H11 (by kernel_rfl) ?_
    obtain ⟨m', hm, h⟩ := h
    refine loop_norm ⟨m', hm, _, _, _, rfl, h⟩
  · replace h := h.2 (is_dec.f hc)
    refine w_exit ?_
    refine then_exit ?_
    refine loop_exit ?_
    refine block_exit ?_
    refine then_norm ?_
    refine w_seq ?_
    refine w_run [0, 0] ?_
    refine t_done [(.int .i64 n0), out6, (.int .i64 i4), (.bool (decide (i4 < n0))), out6] H7 (by kernel_rfl) ?_
    refine then_norm ?_
    refine w_ret ?_
    exact body_ret (vs := [out6]) _ (by kernel_rfl) rfl h

end Go.RM
