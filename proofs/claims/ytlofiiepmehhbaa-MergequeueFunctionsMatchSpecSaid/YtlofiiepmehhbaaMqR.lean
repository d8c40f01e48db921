import Derived.Test.YtlofiiepmehhbaaRmWp
/-
  Functions of the program as the abstract machine runs them, and what must be shown of a run: printed by RmPrint.
-/
namespace Go.RM
set_option linter.unusedVariables false
set_option maxRecDepth 4000
def rf_FQueue_Index : RFunc := ⟨2, 7, [.var 2],
 ((.seq (.ops [⟨.tomb 1 (.var 0), none, (some 4), true⟩, ⟨.move (.k (.int .i64 0)), none, (some 2), true⟩])
 ((.seq ((.seq (.ops [⟨.move (.k (.int .i64 0)), none, (some 3), true⟩])
 (.block 0 (.loop ((.seq ((.seq (.ops [o1 (.move (.var 3)), o1 (.field 0 none (.var 4)), o1 (.field 0 none (.var 4)), o1 (.len (.loc 2)), ⟨.bin .lss .no (.loc 0) (.loc 3), none, (some 5), true⟩])
 (.cond (.var 5) (.skip) (.exit 0))))
 ((.seq (.block 1 ((.seq (.ops [o1 (.field 0 none (.var 4)), o1 (.field 0 none (.var 4)), o1 (.move (.var 3)), o1 (.indexAddr 1 (.loc 1) (.loc 2)), o1 (.load none (.loc 3)), o1 (.move (.var 1)), ⟨.bin .eql .no (.loc 4) (.loc 5), none, (some 6), true⟩])
 (.cond (.var 6) ((.seq (.ops [o1 (.move (.var 3)), ⟨.move (.loc 0), none, (some 2), true⟩])
 (.ret))) (.skip)))))
 (.ops [o1 (.move (.var 3)), o1 (.bin .add .no (.loc 0) (.k (.int .i64 1))), ⟨.move (.loc 1), none, (some 3), true⟩])))))))))
 ((.seq (.ops [⟨.move (.k (.int .i64 (-1))), none, (some 2), true⟩])
 (.ret))))))), none⟩
theorem v_FQueue_Index {F : Nat → Option RFunc} {me : Nat} (hF : F me = some (rf_FQueue_Index )) {fl : Nat} {H : Heap} {Q : AV → Heap → Prop} (q0 : AV) (q1 : AV) (q2 : AV) (q3 : AV) (q4 : AV) (change5 : Int)
  (h : ∀ (H6 : Heap), Dead1 H 1 H6 → ∃ (J7 : Nat → Int → Prop) (k8 : Nat), J7 k8 0 ∧ (∀ (m9 : Nat) (i11 : Int), J7 m9 i11 → ∃ len14 : Nat, lenA q0 = some len14 ∧ ((i11 < (len14 : Int)) → ∃ (e15 : Int), getA H6 1 none q0 i11 0 = some (.int .i64 e15) ∧ ((e15 = change5) → Q (.int .i64 i11) H6) ∧ (¬(e15 = change5) → ∃ m17 : Nat, m17 < m9 ∧ J7 m17 (IntKind.wrap .i64 (i11 + 1)))) ∧ (¬(i11 < (len14 : Int)) → Q (.int .i64 (-1)) H6))) : Ret F fl me [(.agg [q0, q1, q2, q3, q4]), (.int .i64 change5)] H Q := by
  refine ret_intro hF rfl ?_
  refine w_seq ?_
  refine w_run [1, 0] ?_
  obtain ⟨H6, hb⟩ : ∃ H', Dead1 H 1 H' := ⟨_, ⟨rfl⟩⟩
  replace h := h H6 hb
  refine t_tomb true 1 (.agg [q0, q1, q2, q3, q4]) [q0, q1, q2, q3, q4] H6 H (by kernel_rfl) rfl hb ?_
  refine t_done [(.agg [q0, q1, q2, q3, q4]), (.int .i64 change5), (.int .i64 0), .undef, (.agg [q0, q1, q2, q3, q4]), .undef, .undef] H6 (by kernel_rfl) ?_
  refine then_norm ?_
  refine w_seq ?_
  refine w_seq ?_
  refine w_run [0] ?_
  refine t_done [(.agg [q0, q1, q2, q3, q4]), (.int .i64 change5), (.int .i64 0), (.int .i64 0), (.agg [q0, q1, q2, q3, q4]), .undef, .undef] H6 (by kernel_rfl) ?_
  refine then_norm ?_
  refine w_block ?_
  obtain ⟨J7, k8, h0, h⟩ := h
  refine w_loop (I := fun mI EI HI => ∃ (d10 : AV) (i11 : Int) (d12 : AV) (d13 : AV), EI = [(.agg [q0, q1, q2, q3, q4]), (.int .i64 change5), d10, (.int .i64 i11), (.agg [q0, q1, q2, q3, q4]), d12, d13] ∧ H6 = HI ∧ J7 mI i11) ?_ k8 ⟨_, _, _, _, rfl, rfl, h0⟩
  clear h0
  rintro m9 EI HI ⟨d10, i11, d12, d13, rfl, rfl, hJ⟩
  replace h := h m9 i11  hJ
  clear hJ
  refine w_seq ?_
  refine w_seq ?_
  refine w_run [0, 0, 0, 1, 0] ?_
  obtain ⟨len14, hl, h⟩ := h
  refine t_len true q0 len14 H6 (by kernel_rfl) hl ?_
  refine t_done [(.agg [q0, q1, q2, q3, q4]), (.int .i64 change5), d10, (.int .i64 i11), (.agg [q0, q1, q2, q3, q4]), (.bool (decide (i11 < (len14 : Int)))), d13] H6 (by kernel_rfl) ?_
  refine then_norm ?_
  refine w_cond (t := (decide (i11 < (len14 : Int)))) rfl (fun hc => ?_) (fun hc => ?_)
  · replace h := h.1 (is_dec.t hc)
    refine w_skip ?_
    refine then_norm ?_
    refine w_seq ?_
    refine w_block ?_
    refine w_seq ?_
    refine w_run [0, 0, 0, 1, 1, 0, 0] ?_
    obtain ⟨e15, hg16, h⟩ := h
    refine t_idxG true 1 q0 .i64 i11 H6 (by kernel_rfl) hg16 ?_
    refine t_loadG true none 1 q0 i11 0 (.int .i64 e15) H6 (by kernel_rfl) hg16 ?_
    refine t_done [(.agg [q0, q1, q2, q3, q4]), (.int .i64 change5), d10, (.int .i64 i11), (.agg [q0, q1, q2, q3, q4]), (.bool (decide (i11 < (len14 : Int)))), (.bool ((e15) == change5))] H6 (by kernel_rfl) ?_
    refine then_norm ?_
    refine w_cond (t := ((e15) == change5)) rfl (fun hc => ?_) (fun hc => ?_)
    · replace h := h.1 (is_eq.t hc)
      refine w_seq ?_
      refine w_run [0, 0] ?_
      refine t_done [(.agg [q0, q1, q2, q3, q4]), (.int .i64 change5), (.int .i64 i11), (.int .i64 i11), (.agg [q0, q1, q2, q3, q4]), (.bool (decide (i11 < (len14 : Int)))), (.bool ((e15) == change5))] H6 (by kernel_rfl) ?_
      refine then_norm ?_
      refine w_ret ?_
      refine block_ret ?_
      refine then_ret ?_
      refine loop_ret ?_
      refine block_ret ?_
      refine then_ret ?_
      exact body_ret (vs := [(.int .i64 i11)]) _ (by kernel_rfl) rfl h
    · replace h := h.2 (is_eq.f hc)
      refine w_skip ?_
      refine block_norm ?_
      refine then_norm ?_
      refine w_run [0, 0, 0] ?_
      refine t_done [(.agg [q0, q1, q2, q3, q4]), (.int .i64 change5), d10, (.int .i64 (IntKind.wrap .i64 (i11 + 1))), (.agg [q0, q1, q2, q3, q4]), (.bool (decide (i11 < (len14 : Int)))), (.bool ((e15) == change5))] H6 (by kernel_rfl) ?_
      obtain ⟨m', hm, h⟩ := h
      refine loop_norm ⟨m', hm, _, _, _, _, rfl, rfl, h⟩
  · replace h := h.2 (is_dec.f hc)
    refine w_exit ?_
    refine then_exit ?_
    refine loop_exit ?_
    refine block_exit ?_
    refine then_norm ?_
    refine w_seq ?_
    refine w_run [0] ?_
    refine t_done [(.agg [q0, q1, q2, q3, q4]), (.int .i64 change5), (.int .i64 (-1)), (.int .i64 i11), (.agg [q0, q1, q2, q3, q4]), (.bool (decide (i11 < (len14 : Int)))), d13] H6 (by kernel_rfl) ?_
    refine then_norm ?_
    refine w_ret ?_
    exact body_ret (vs := [(.int .i64 (-1))]) _ (by kernel_rfl) rfl h

def rf_FQueue_insert : RFunc := ⟨3, 13, [.part 3 (some 5)],
 ((.seq (.ops [⟨.tomb 1 (.var 0), none, (some 4), true⟩, ⟨.tomb 1 (.k (.agg [.empty, .empty, .empty, .empty, .empty])), none, (some 3), true⟩])
 ((.seq (.ops [o1 (.field 0 none (.var 4)), o1 (.field 3 none (.var 4)), o1 (.field 0 none (.var 4)), o1 (.field 4 none (.var 4)), o1 (.build [.empty, .empty, .empty, .empty, .empty] [(3, 1, (.loc 1)), (4, 1, (.loc 3))]), ⟨.tomb 1 (.k (.agg [.empty, .empty, .empty, .empty, .empty])), none, (some 9), true⟩, ⟨.upd 5 0 (.loc 5) (.loc 4), none, (some 9), true⟩])
 ((.seq (.ops [⟨.move (.k (.bool false)), none, (some 7), true⟩])
 ((.seq ((.seq (.ops [⟨.move (.k (.int .i64 0)), none, (some 5), true⟩])
 (.block 0 (.loop ((.seq ((.seq (.ops [o1 (.move (.var 5)), o1 (.field 0 none (.var 4)), o1 (.field 0 none (.var 4)), o1 (.len (.loc 2)), ⟨.bin .leq .no (.loc 0) (.loc 3), none, (some 6), true⟩])
 (.cond (.var 6) (.skip) (.exit 0))))
 ((.seq (.block 1 ((.seq ((.seq (.ops [o1 (.move (.var 7)), o1 (.un .not (.loc 0)), o1 (.move (.loc 1)), ⟨.move (.var 5), (some (2, true)), none, true⟩, ⟨.field 0 none (.var 4), (some (2, true)), none, true⟩, ⟨.field 0 none (.var 4), (some (2, true)), none, true⟩, ⟨.len (.loc 5), (some (2, true)), none, true⟩, ⟨.bin .eql .no (.loc 3) (.loc 6), (some (2, true)), none, true⟩, ⟨.move (.loc 7), (some (2, true)), none, true⟩, ⟨.field 0 none (.var 4), (some (8, false)), none, true⟩, ⟨.field 1 none (.var 4), (some (8, false)), none, true⟩, ⟨.move (.var 5), (some (8, false)), none, true⟩, ⟨.indexAddr 1 (.loc 10) (.loc 11), (some (8, false)), none, true⟩, ⟨.load none (.loc 12), (some (8, false)), none, true⟩, ⟨.move (.var 2), (some (8, false)), none, true⟩, ⟨.bin .lss .no (.loc 13) (.loc 14), (some (8, false)), none, true⟩, ⟨.pick (.loc 8) (.k (.bool true)) (.loc 15), (some (2, true)), none, true⟩, ⟨.pick (.loc 2) (.loc 16) (.k (.bool false)), none, (some 8), true⟩])
 (.cond (.var 8) ((.seq (.ops [o1 (.field 0 none (.var 9)), o1 (.field 0 none (.var 9)), o1 (.move (.var 1)), o1 (.buildSlice 1 [.int .i64 0] [(0, 1, (.loc 2))] 1), o1 (.append 1 8 (.loc 1) (.loc 3)), o1 (.field 0 none (.var 9)), ⟨.upd 1 0 (.var 9) (.loc 4), none, (some 9), true⟩])
 ((.seq (.ops [o1 (.field 0 none (.var 9)), o1 (.field 1 none (.var 9)), o1 (.move (.var 2)), o1 (.buildSlice 1 [.int .i64 0] [(0, 1, (.loc 2))] 1), o1 (.append 1 8 (.loc 1) (.loc 3)), o1 (.field 0 none (.var 9)), ⟨.upd 1 1 (.var 9) (.loc 4), none, (some 9), true⟩])
 ((.seq (.ops [o1 (.field 0 none (.var 9)), o1 (.field 2 none (.var 9)), o1 (.buildSlice 1 [.int .i64 0] [(0, 1, (.k (.int .i64 0)))] 1), o1 (.append 1 8 (.loc 1) (.loc 2)), o1 (.field 0 none (.var 9)), ⟨.upd 1 2 (.var 9) (.loc 3), none, (some 9), true⟩])
 (.ops [⟨.move (.k (.bool true)), none, (some 7), true⟩]))))))) (.skip))))
 ((.seq (.ops [o1 (.move (.var 5)), o1 (.field 0 none (.var 4)), o1 (.field 0 none (.var 4)), o1 (.len (.loc 2)), ⟨.bin .lss .no (.loc 0) (.loc 3), none, (some 10), true⟩])
 (.cond (.var 10) ((.seq (.ops [o1 (.field 0 none (.var 4)), o1 (.field 2 none (.var 4)), o1 (.move (.var 5)), o1 (.indexAddr 1 (.loc 1) (.loc 2)), o1 (.load none (.loc 3)), ⟨.move (.loc 4), none, (some 12), true⟩])
 ((.seq ((.seq (.ops [⟨.move (.var 7), none, (some 11), true⟩])
 (.cond (.var 11) (.ops [⟨.move (.k (.int .i64 0)), none, (some 12), true⟩]) (.skip))))
 ((.seq (.ops [⟨.field 0 none (.var 9), none, none, false⟩, ⟨.field 0 none (.var 9), none, none, false⟩, ⟨.field 0 none (.var 4), none, none, false⟩, ⟨.field 0 none (.var 4), none, none, false⟩, ⟨.move (.var 5), none, none, false⟩, ⟨.indexAddr 1 (.loc 3) (.loc 4), none, none, false⟩, ⟨.load none (.loc 5), none, none, false⟩, ⟨.buildSlice 1 [.int .i64 0] [(0, 1, (.loc 6))] 1, none, none, false⟩, o1 (.append 1 8 (.loc 1) (.loc 7)), o1 (.field 0 none (.var 9)), ⟨.upd 1 0 (.var 9) (.loc 8), none, (some 9), true⟩])
 ((.seq (.ops [⟨.field 0 none (.var 9), none, none, false⟩, ⟨.field 1 none (.var 9), none, none, false⟩, ⟨.field 0 none (.var 4), none, none, false⟩, ⟨.field 1 none (.var 4), none, none, false⟩, ⟨.move (.var 5), none, none, false⟩, ⟨.indexAddr 1 (.loc 3) (.loc 4), none, none, false⟩, ⟨.load none (.loc 5), none, none, false⟩, ⟨.buildSlice 1 [.int .i64 0] [(0, 1, (.loc 6))] 1, none, none, false⟩, o1 (.append 1 8 (.loc 1) (.loc 7)), o1 (.field 0 none (.var 9)), ⟨.upd 1 1 (.var 9) (.loc 8), none, (some 9), true⟩])
 (.ops [o1 (.field 0 none (.var 9)), o1 (.field 2 none (.var 9)), o1 (.move (.var 12)), o1 (.buildSlice 1 [.int .i64 0] [(0, 1, (.loc 2))] 1), o1 (.append 1 8 (.loc 1) (.loc 3)), o1 (.field 0 none (.var 9)), ⟨.upd 1 2 (.var 9) (.loc 4), none, (some 9), true⟩]))))))))) (.skip)))))))
 (.ops [o1 (.move (.var 5)), o1 (.bin .add .no (.loc 0) (.k (.int .i64 1))), ⟨.move (.loc 1), none, (some 5), true⟩])))))))))
 ((.seq (.ops [o1 (.field 0 (some 5) (.var 9)), ⟨.upd 5 0 (.var 3) (.loc 0), none, (some 3), true⟩])
 (.ret))))))))))), none⟩
theorem v_FQueue_insert {F : Nat → Option RFunc} {me : Nat} (hF : F me = some (rf_FQueue_insert )) {fl : Nat} {H : Heap} {Q : AV → Heap → Prop} (q0 : AV) (q1 : AV) (q2 : AV) (q3 : AV) (q4 : AV) (change5 : Int) (priority6 : Int)
  (h : ∀ (H7 : Heap), Dead1 H 1 H7 → ∀ (H8 : Heap), Dead1 H7 1 H8 → Scal q3 ∧ Scal q4 ∧ ∀ (H11 : Heap), Dead1 H8 1 H11 → ∃ (J12 : Nat → Int → Bool → AV → AV → AV → AV → AV → Heap → Prop) (k13 : Nat), J12 k13 0 false .empty .empty .empty q3 q4 H11 ∧ (∀ (m14 : Nat) (k15 : Int) (placed17 : Bool) (out19 : AV) (out20 : AV) (out21 : AV) (out22 : AV) (out23 : AV) (H27 : Heap), J12 m14 k15 placed17 out19 out20 out21 out22 out23 H27 → ∃ len28 : Nat, lenA q0 = some len28 ∧ ((k15 ≤ (len28 : Int)) → ∃ (R29 : Bool → AV → AV → AV → AV → AV → Heap → Prop), (((¬(placed17 = true)) → ∃ len38 : Nat, lenA q0 = some len38 ∧ ((k15 = (len38 : Int)) → ∀ (b56 : Nat) (H57 : Heap), NewB H27 1 [(.int .i64 change5)] b56 H57 → ∃ (a58 : AV) (H59 : Heap), appA fl true 1 8 H57 out19 (.slice b56 0 1 (some 1)) = some (a58, H59) ∧ Scal a58 ∧ ∀ (b61 : Nat) (H62 : Heap), NewB H59 1 [(.int .i64 priority6)] b61 H62 → ∃ (a63 : AV) (H64 : Heap), appA fl true 1 8 H62 out20 (.slice b61 0 1 (some 1)) = some (a63, H64) ∧ Scal a63 ∧ ∀ (b66 : Nat) (H67 : Heap), NewB H64 1 [(.int .i64 0)] b66 H67 → ∃ (a68 : AV) (H69 : Heap), appA fl true 1 8 H67 out21 (.slice b66 0 1 (some 1)) = some (a68, H69) ∧ Scal a68 ∧ R29 true a58 a63 a68 out22 out23 H69) ∧ (¬(k15 = (len38 : Int)) → ∃ (e39 : Int), getA H27 1 none q1 k15 0 = some (.int .i64 e39) ∧ ((e39 < priority6) → ∀ (b41 : Nat) (H42 : Heap), NewB H27 1 [(.int .i64 change5)] b41 H42 → ∃ (a43 : AV) (H44 : Heap), appA fl true 1 8 H42 out19 (.slice b41 0 1 (some 1)) = some (a43, H44) ∧ Scal a43 ∧ ∀ (b46 : Nat) (H47 : Heap), NewB H44 1 [(.int .i64 priority6)] b46 H47 → ∃ (a48 : AV) (H49 : Heap), appA fl true 1 8 H47 out20 (.slice b46 0 1 (some 1)) = some (a48, H49) ∧ Scal a48 ∧ ∀ (b51 : Nat) (H52 : Heap), NewB H49 1 [(.int .i64 0)] b51 H52 → ∃ (a53 : AV) (H54 : Heap), appA fl true 1 8 H52 out21 (.slice b51 0 1 (some 1)) = some (a53, H54) ∧ Scal a53 ∧ R29 true a43 a48 a53 out22 out23 H54) ∧ (¬(e39 < priority6) → R29 placed17 out19 out20 out21 out22 out23 H27))) ∧ (¬(¬(placed17 = true)) → R29 placed17 out19 out20 out21 out22 out23 H27)) ∧ (∀ (placed30 : Bool) (out32 : AV) (out33 : AV) (out34 : AV) (out35 : AV) (out36 : AV) (H37 : Heap), R29 placed30 out32 out33 out34 out35 out36 H37 → ∃ len71 : Nat, lenA q0 = some len71 ∧ ((k15 < (len71 : Int)) → ∃ (e72 : Int), getA H37 1 none q2 k15 0 = some (.int .i64 e72) ∧ ((placed30 = true) → ∃ (e74 : Int), getA H37 1 none q0 k15 0 = some (.int .i64 e74) ∧ ∀ (b76 : Nat) (H77 : Heap), NewB H37 1 [(.int .i64 e74)] b76 H77 → ∃ (a78 : AV) (H79 : Heap), appA fl true 1 8 H77 out32 (.slice b76 0 1 (some 1)) = some (a78, H79) ∧ Scal a78 ∧ ∃ (e81 : Int), getA H79 1 none q1 k15 0 = some (.int .i64 e81) ∧ ∀ (b83 : Nat) (H84 : Heap), NewB H79 1 [(.int .i64 e81)] b83 H84 → ∃ (a85 : AV) (H86 : Heap), appA fl true 1 8 H84 out33 (.slice b83 0 1 (some 1)) = some (a85, H86) ∧ Scal a85 ∧ ∀ (b88 : Nat) (H89 : Heap), NewB H86 1 [(.int .i64 0)] b88 H89 → ∃ (a90 : AV) (H91 : Heap), appA fl true 1 8 H89 out34 (.slice b88 0 1 (some 1)) = some (a90, H91) ∧ Scal a90 ∧ ∃ m93 : Nat, m93 < m14 ∧ J12 m93 (IntKind.wrap .i64 (k15 + 1)) placed30 a78 a85 a90 out35 out36 H91) ∧ (¬(placed30 = true) → ∃ (e94 : Int), getA H37 1 none q0 k15 0 = some (.int .i64 e94) ∧ ∀ (b96 : Nat) (H97 : Heap), NewB H37 1 [(.int .i64 e94)] b96 H97 → ∃ (a98 : AV) (H99 : Heap), appA fl true 1 8 H97 out32 (.slice b96 0 1 (some 1)) = some (a98, H99) ∧ Scal a98 ∧ ∃ (e101 : Int), getA H99 1 none q1 k15 0 = some (.int .i64 e101) ∧ ∀ (b103 : Nat) (H104 : Heap), NewB H99 1 [(.int .i64 e101)] b103 H104 → ∃ (a105 : AV) (H106 : Heap), appA fl true 1 8 H104 out33 (.slice b103 0 1 (some 1)) = some (a105, H106) ∧ Scal a105 ∧ ∀ (b108 : Nat) (H109 : Heap), NewB H106 1 [(.int .i64 e72)] b108 H109 → ∃ (a110 : AV) (H111 : Heap), appA fl true 1 8 H109 out34 (.slice b108 0 1 (some 1)) = some (a110, H111) ∧ Scal a110 ∧ ∃ m113 : Nat, m113 < m14 ∧ J12 m113 (IntKind.wrap .i64 (k15 + 1)) placed30 a98 a105 a110 out35 out36 H111)) ∧ (¬(k15 < (len71 : Int)) → ∃ m114 : Nat, m114 < m14 ∧ J12 m114 (IntKind.wrap .i64 (k15 + 1)) placed30 out32 out33 out34 out35 out36 H37))) ∧ (¬(k15 ≤ (len28 : Int)) → Scal out19 ∧ Scal out20 ∧ Scal out21 ∧ Scal out22 ∧ Scal out23 ∧ Q (.agg [out19, out20, out21, out22, out23]) H27))) : Ret F fl me [(.agg [q0, q1, q2, q3, q4]), (.int .i64 change5), (.int .i64 priority6)] H Q := by
  refine ret_intro hF rfl ?_
  refine w_seq ?_
  refine w_run [1, 1] ?_
  obtain ⟨H7, hb⟩ : ∃ H', Dead1 H 1 H' := ⟨_, ⟨rfl⟩⟩
  replace h := h H7 hb
  refine t_tomb true 1 (.agg [q0, q1, q2, q3, q4]) [q0, q1, q2, q3, q4] H7 H (by kernel_rfl) rfl hb ?_
  obtain ⟨H8, hb⟩ : ∃ H', Dead1 H7 1 H' := ⟨_, ⟨rfl⟩⟩
  replace h := h H8 hb
  refine t_tomb true 1 (.agg [.empty, .empty, .empty, .empty, .empty]) [.empty, .empty, .empty, .empty, .empty] H8 H7 (by kernel_rfl) rfl hb ?_
  refine t_done [(.agg [q0, q1, q2, q3, q4]), (.int .i64 change5), (.int .i64 priority6), (.agg [.empty, .empty, .empty, .empty, .empty]), (.agg [q0, q1, q2, q3, q4]), .undef, .undef, .undef, .undef, .undef, .undef, .undef, .undef] H8 (by kernel_rfl) ?_
  refine then_norm ?_
  refine w_seq ?_
  refine w_run [0, 0, 0, 0, 1, 1, 1] ?_
  obtain ⟨hs9, h⟩ := h
  obtain ⟨hs10, h⟩ := h
  refine t_build true [.empty, .empty, .empty, .empty, .empty] [(3, 1, .loc 0), (4, 1, .loc 1)] [q3, q4] [.empty, .empty, .empty, q3, q4] H8 (by kernel_rfl) (fill_c (vs := [q3]) (size := 1) hs9.1 (by kernel_rfl) (by kernel_rfl) (fill_c (vs := [q4]) (size := 1) hs10.1 (by kernel_rfl) (by kernel_rfl) (by kernel_rfl))) ?_
  obtain ⟨H11, hb⟩ : ∃ H', Dead1 H8 1 H' := ⟨_, ⟨rfl⟩⟩
  replace h := h H11 hb
  refine t_tomb true 1 (.agg [.empty, .empty, .empty, .empty, .empty]) [.empty, .empty, .empty, .empty, .empty] H11 H8 (by kernel_rfl) rfl hb ?_
  refine t_upd true 5 0 [.empty, .empty, .empty, .empty, .empty] (.agg [.empty, .empty, .empty, q3, q4]) [.empty, .empty, .empty, q3, q4] [.empty, .empty, .empty, q3, q4] H11 (by kernel_rfl) rfl (all_c rfl (all_c rfl (all_c rfl (all_c hs9.2 (all_c hs10.2 all_n))))) ⟨rfl, Nat.le_of_ble_eq_true (by kernel_rfl), rfl⟩ ?_
  refine t_done [(.agg [q0, q1, q2, q3, q4]), (.int .i64 change5), (.int .i64 priority6), (.agg [.empty, .empty, .empty, .empty, .empty]), (.agg [q0, q1, q2, q3, q4]), .undef, .undef, .undef, .undef, (.agg [.empty, .empty, .empty, q3, q4]), .undef, .undef, .undef] H11 (by kernel_rfl) ?_
  refine then_norm ?_
  refine w_seq ?_
  refine w_run [0] ?_
  refine t_done [(.agg [q0, q1, q2, q3, q4]), (.int .i64 change5), (.int .i64 priority6), (.agg [.empty, .empty, .empty, .empty, .empty]), (.agg [q0, q1, q2, q3, q4]), .undef, .undef, (.bool false), .undef, (.agg [.empty, .empty, .empty, q3, q4]), .undef, .undef, .undef] H11 (by kernel_rfl) ?_
  refine then_norm ?_
  refine w_seq ?_
  refine w_seq ?_
  refine w_run [0] ?_
  refine t_done [(.agg [q0, q1, q2, q3, q4]), (.int .i64 change5), (.int .i64 priority6), (.agg [.empty, .empty, .empty, .empty, .empty]), (.agg [q0, q1, q2, q3, q4]), (.int .i64 0), .undef, (.bool false), .undef, (.agg [.empty, .empty, .empty, q3, q4]), .undef, .undef, .undef] H11 (by kernel_rfl) ?_
  refine then_norm ?_
  refine w_block ?_
  obtain ⟨J12, k13, h0, h⟩ := h
  refine w_loop (I := fun mI EI HI => ∃ (k15 : Int) (d16 : AV) (placed17 : Bool) (d18 : AV) (out19 : AV) (out20 : AV) (out21 : AV) (out22 : AV) (out23 : AV) (d24 : AV) (d25 : AV) (d26 : AV), EI = [(.agg [q0, q1, q2, q3, q4]), (.int .i64 change5), (.int .i64 priority6), (.agg [.empty, .empty, .empty, .empty, .empty]), (.agg [q0, q1, q2, q3, q4]), (.int .i64 k15), d16, (.bool placed17), d18, (.agg [out19, out20, out21, out22, out23]), d24, d25, d26] ∧ J12 mI k15 placed17 out19 out20 out21 out22 out23 HI) ?_ k13 ⟨_, _, _, _, _, _, _, _, _, _, _, _, rfl, h0⟩
  clear h0
  rintro m14 EI H27 ⟨k15, d16, placed17, d18, out19, out20, out21, out22, out23, d24, d25, d26, rfl, hJ⟩
  replace h := h m14 k15 placed17 out19 out20 out21 out22 out23 H27 hJ
  clear hJ
  refine w_seq ?_
  refine w_seq ?_
  refine w_run [0, 0, 0, 1, 0] ?_
  obtain ⟨len28, hl, h⟩ := h
  refine t_len true q0 len28 H27 (by kernel_rfl) hl ?_
  refine t_done [(.agg [q0, q1, q2, q3, q4]), (.int .i64 change5), (.int .i64 priority6), (.agg [.empty, .empty, .empty, .empty, .empty]), (.agg [q0, q1, q2, q3, q4]), (.int .i64 k15), (.bool (decide (k15 ≤ (len28 : Int)))), (.bool placed17), d18, (.agg [out19, out20, out21, out22, out23]), d24, d25, d26] H27 (by kernel_rfl) ?_
  refine then_norm ?_
  refine w_cond (t := (decide (k15 ≤ (len28 : Int)))) rfl (fun hc => ?_) (fun hc => ?_)
  · replace h := h.1 (is_dec.t hc)
    refine w_skip ?_
    refine then_norm ?_
    refine w_seq ?_
    refine w_block ?_
    refine w_seq ?_
    obtain ⟨R29, h, hK⟩ := h
    refine w_join (fun EI HI => ∃ (placed30 : Bool) (d31 : AV) (out32 : AV) (out33 : AV) (out34 : AV) (out35 : AV) (out36 : AV), EI = [(.agg [q0, q1, q2, q3, q4]), (.int .i64 change5), (.int .i64 priority6), (.agg [.empty, .empty, .empty, .empty, .empty]), (.agg [q0, q1, q2, q3, q4]), (.int .i64 k15), (.bool (decide (k15 ≤ (len28 : Int)))), (.bool placed30), d31, (.agg [out32, out33, out34, out35, out36]), d24, d25, d26] ∧ R29 placed30 out32 out33 out34 out35 out36 HI) ?_ ?_
    · clear hK
      refine w_seq ?_
      refine w_run [0, 0, 0, 2, 2, 2, 3, 2, 2, 2, 2, 2, 3, 3, 2, 2, 2, 0] ?_
      refine t_gd (!placed17) true (by kernel_rfl) (fun hc => ?_) (fun hc => ?_)
      · replace h := h.1 ((is_not is_raw).t hc)
        refine t_gd true true (by kernel_rfl) (fun _ => ?_) (fun hn => by cases hn)
        refine t_gd true true (by kernel_rfl) (fun _ => ?_) (fun hn => by cases hn)
        refine t_gd true true (by kernel_rfl) (fun _ => ?_) (fun hn => by cases hn)
        obtain ⟨len38, hl, h⟩ := h
        refine t_len true q0 len38 H27 (by kernel_rfl) hl ?_
        refine t_gd true true (by kernel_rfl) (fun _ => ?_) (fun hn => by cases hn)
        refine t_gd true true (by kernel_rfl) (fun _ => ?_) (fun hn => by cases hn)
        refine t_gd ((k15) == (len38 : Int)) false (by kernel_rfl) (fun hc => ?_) (fun hc => ?_)
        · replace h := h.2 (is_eq.f hc)
          refine t_gd false false (by kernel_rfl) (fun _ => ?_) (fun hn => by cases hn)
          refine t_gd false false (by kernel_rfl) (fun _ => ?_) (fun hn => by cases hn)
          refine t_gd false false (by kernel_rfl) (fun _ => ?_) (fun hn => by cases hn)
          obtain ⟨e39, hg40, h⟩ := h
          refine t_idxG true 1 q1 .i64 k15 H27 (by kernel_rfl) hg40 ?_
          refine t_gd false false (by kernel_rfl) (fun _ => ?_) (fun hn => by cases hn)
          refine t_loadG true none 1 q1 k15 0 (.int .i64 e39) H27 (by kernel_rfl) hg40 ?_
          refine t_gd false false (by kernel_rfl) (fun _ => ?_) (fun hn => by cases hn)
          refine t_gd false false (by kernel_rfl) (fun _ => ?_) (fun hn => by cases hn)
          refine t_gd true true (by kernel_rfl) (fun _ => ?_) (fun hn => by cases hn)
          refine t_done [(.agg [q0, q1, q2, q3, q4]), (.int .i64 change5), (.int .i64 priority6), (.agg [.empty, .empty, .empty, .empty, .empty]), (.agg [q0, q1, q2, q3, q4]), (.int .i64 k15), (.bool (decide (k15 ≤ (len28 : Int)))), (.bool placed17), (.bool (decide (e39 < priority6))), (.agg [out19, out20, out21, out22, out23]), d24, d25, d26] H27 (by kernel_rfl) ?_
          refine then_norm ?_
          refine w_cond (t := (decide (e39 < priority6))) rfl (fun hc => ?_) (fun hc => ?_)
          · replace h := h.1 (is_dec.t hc)
            refine w_seq ?_
            refine w_run [0, 0, 0, 1, 1, 0, 1] ?_
            obtain ⟨b41, H42, hb⟩ : ∃ b H', NewB H27 1 [(.int .i64 change5)] b H' := ⟨_, _, rfl, rfl⟩
            replace h := h b41 H42 hb
            refine t_bs true 1 [(.int .i64 0)] [(0, 1, .loc 0)] 1 [(.int .i64 change5)] [(.int .i64 change5)] b41 H42 H27 (by kernel_rfl) (fill_c (vs := [(.int .i64 change5)]) (size := 1) rfl (by kernel_rfl) (by kernel_rfl) (by kernel_rfl)) hb ?_
            obtain ⟨a43, H44, ha, h⟩ := h
            refine t_app true 1 8 out19 (.slice b41 0 1 (some 1)) a43 H44 H42 (by kernel_rfl) ha ?_
            obtain ⟨hs45, h⟩ := h
            refine t_upd true 1 0 [out19, out20, out21, out22, out23] a43 [a43] [a43, out20, out21, out22, out23] H44 (by kernel_rfl) hs45.1 (all_c hs45.2 all_n) ⟨rfl, Nat.le_of_ble_eq_true (by kernel_rfl), rfl⟩ ?_
            refine t_done [(.agg [q0, q1, q2, q3, q4]), (.int .i64 change5), (.int .i64 priority6), (.agg [.empty, .empty, .empty, .empty, .empty]), (.agg [q0, q1, q2, q3, q4]), (.int .i64 k15), (.bool (decide (k15 ≤ (len28 : Int)))), (.bool placed17), (.bool (decide (e39 < priority6))), (.agg [a43, out20, out21, out22, out23]), d24, d25, d26] H44 (by kernel_rfl) ?_
            refine then_norm ?_
            refine w_seq ?_
            refine w_run [0, 0, 0, 1, 1, 0, 1] ?_
            obtain ⟨b46, H47, hb⟩ : ∃ b H', NewB H44 1 [(.int .i64 priority6)] b H' := ⟨_, _, rfl, rfl⟩
            replace h := h b46 H47 hb
            refine t_bs true 1 [(.int .i64 0)] [(0, 1, .loc 0)] 1 [(.int .i64 priority6)] [(.int .i64 priority6)] b46 H47 H44 (by kernel_rfl) (fill_c (vs := [(.int .i64 priority6)]) (size := 1) rfl (by kernel_rfl) (by kernel_rfl) (by kernel_rfl)) hb ?_
            obtain ⟨a48, H49, ha, h⟩ := h
            refine t_app true 1 8 out20 (.slice b46 0 1 (some 1)) a48 H49 H47 (by kernel_rfl) ha ?_
            obtain ⟨hs50, h⟩ := h
            refine t_upd true 1 1 [a43, out20, out21, out22, out23] a48 [a48] [a43, a48, out21, out22, out23] H49 (by kernel_rfl) hs50.1 (all_c hs50.2 all_n) ⟨rfl, Nat.le_of_ble_eq_true (by kernel_rfl), rfl⟩ ?_
            refine t_done [(.agg [q0, q1, q2, q3, q4]), (.int .i64 change5), (.int .i64 priority6), (.agg [.empty, .empty, .empty, .empty, .empty]), (.agg [q0, q1, q2, q3, q4]), (.int .i64 k15), (.bool (decide (k15 ≤ (len28 : Int)))), (.bool placed17), (.bool (decide (e39 < priority6))), (.agg [a43, a48, out21, out22, out23]), d24, d25, d26] H49 (by kernel_rfl) ?_
            refine then_norm ?_
            refine w_seq ?_
            refine w_run [0, 0, 1, 1, 0, 1] ?_
            obtain ⟨b51, H52, hb⟩ : ∃ b H', NewB H49 1 [(.int .i64 0)] b H' := ⟨_, _, rfl, rfl⟩
            replace h := h b51 H52 hb
            refine t_bs true 1 [(.int .i64 0)] [(0, 1, .loc 0)] 1 [(.int .i64 0)] [(.int .i64 0)] b51 H52 H49 (by kernel_rfl) (fill_c (vs := [(.int .i64 0)]) (size := 1) rfl (by kernel_rfl) (by kernel_rfl) (by kernel_rfl)) hb ?_
            obtain ⟨a53, H54, ha, h⟩ := h
            refine t_app true 1 8 out21 (.slice b51 0 1 (some 1)) a53 H54 H52 (by kernel_rfl) ha ?_
            obtain ⟨hs55, h⟩ := h
            refine t_upd true 1 2 [a43, a48, out21, out22, out23] a53 [a53] [a43, a48, a53, out22, out23] H54 (by kernel_rfl) hs55.1 (all_c hs55.2 all_n) ⟨rfl, Nat.le_of_ble_eq_true (by kernel_rfl), rfl⟩ ?_
            refine t_done [(.agg [q0, q1, q2, q3, q4]), (.int .i64 change5), (.int .i64 priority6), (.agg [.empty, .empty, .empty, .empty, .empty]), (.agg [q0, q1, q2, q3, q4]), (.int .i64 k15), (.bool (decide (k15 ≤ (len28 : Int)))), (.bool placed17), (.bool (decide (e39 < priority6))), (.agg [a43, a48, a53, out22, out23]), d24, d25, d26] H54 (by kernel_rfl) ?_
            refine then_norm ?_
            refine w_run [0] ?_
            refine t_done [(.agg [q0, q1, q2, q3, q4]), (.int .i64 change5), (.int .i64 priority6), (.agg [.empty, .empty, .empty, .empty, .empty]), (.agg [q0, q1, q2, q3, q4]), (.int .i64 k15), (.bool (decide (k15 ≤ (len28 : Int)))), (.bool true), (.bool (decide (e39 < priority6))), (.agg [a43, a48, a53, out22, out23]), d24, d25, d26] H54 (by kernel_rfl) ?_
            refine join_norm ⟨_, _, _, _, _, _, _, rfl, h⟩
          · replace h := h.2 (is_dec.f hc)
            refine w_skip ?_
            refine join_norm ⟨_, _, _, _, _, _, _, rfl, h⟩
        · replace h := h.1 (is_eq.t hc)
          refine t_gd true false (by kernel_rfl) (fun hn => by cases hn) (fun _ => ?_)
          refine t_gd true false (by kernel_rfl) (fun hn => by cases hn) (fun _ => ?_)
          refine t_gd true false (by kernel_rfl) (fun hn => by cases hn) (fun _ => ?_)
          refine t_gd true false (by kernel_rfl) (fun hn => by cases hn) (fun _ => ?_)
          refine t_gd true false (by kernel_rfl) (fun hn => by cases hn) (fun _ => ?_)
          refine t_gd true false (by kernel_rfl) (fun hn => by cases hn) (fun _ => ?_)
          refine t_gd true true (by kernel_rfl) (fun _ => ?_) (fun hn => by cases hn)
          refine t_done [(.agg [q0, q1, q2, q3, q4]), (.int .i64 change5), (.int .i64 priority6), (.agg [.empty, .empty, .empty, .empty, .empty]), (.agg [q0, q1, q2, q3, q4]), (.int .i64 k15), (.bool (decide (k15 ≤ (len28 : Int)))), (.bool placed17), (.bool true), (.agg [out19, out20, out21, out22, out23]), d24, d25, d26] H27 (by kernel_rfl) ?_
          refine then_norm ?_
          refine w_cond (t := true) rfl (fun _ => ?_) (fun hc => by cases hc)
          refine w_seq ?_
          refine w_run [0, 0, 0, 1, 1, 0, 1] ?_
          obtain ⟨b56, H57, hb⟩ : ∃ b H', NewB H27 1 [(.int .i64 change5)] b H' := ⟨_, _, rfl, rfl⟩
          replace h := h b56 H57 hb
          refine t_bs true 1 [(.int .i64 0)] [(0, 1, .loc 0)] 1 [(.int .i64 change5)] [(.int .i64 change5)] b56 H57 H27 (by kernel_rfl) (fill_c (vs := [(.int .i64 change5)]) (size := 1) rfl (by kernel_rfl) (by kernel_rfl) (by kernel_rfl)) hb ?_
          obtain ⟨a58, H59, ha, h⟩ := h
          refine t_app true 1 8 out19 (.slice b56 0 1 (some 1)) a58 H59 H57 (by kernel_rfl) ha ?_
          obtain ⟨hs60, h⟩ := h
          refine t_upd true 1 0 [out19, out20, out21, out22, out23] a58 [a58] [a58, out20, out21, out22, out23] H59 (by kernel_rfl) hs60.1 (all_c hs60.2 all_n) ⟨rfl, Nat.le_of_ble_eq_true (by kernel_rfl), rfl⟩ ?_
          refine t_done [(.agg [q0, q1, q2, q3, q4]), (.int .i64 change5), (.int .i64 priority6), (.agg [.empty, .empty, .empty, .empty, .empty]), (.agg [q0, q1, q2, q3, q4]), (.int .i64 k15), (.bool (decide (k15 ≤ (len28 : Int)))), (.bool placed17), (.bool true), (.agg [a58, out20, out21, out22, out23]), d24, d25, d26] H59 (by kernel_rfl) ?_
          refine then_norm ?_
          refine w_seq ?_
          refine w_run [0, 0, 0, 1, 1, 0, 1] ?_
          obtain ⟨b61, H62, hb⟩ : ∃ b H', NewB H59 1 [(.int .i64 priority6)] b H' := ⟨_, _, rfl, rfl⟩
          replace h := h b61 H62 hb
          refine t_bs true 1 [(.int .i64 0)] [(0, 1, .loc 0)] 1 [(.int .i64 priority6)] [(.int .i64 priority6)] b61 H62 H59 (by kernel_rfl) (fill_c (vs := [(.int .i64 priority6)]) (size := 1) rfl (by kernel_rfl) (by kernel_rfl) (by kernel_rfl)) hb ?_
          obtain ⟨a63, H64, ha, h⟩ := h
          refine t_app true 1 8 out20 (.slice b61 0 1 (some 1)) a63 H64 H62 (by kernel_rfl) ha ?_
          obtain ⟨hs65, h⟩ := h
          refine t_upd true 1 1 [a58, out20, out21, out22, out23] a63 [a63] [a58, a63, out21, out22, out23] H64 (by kernel_rfl) hs65.1 (all_c hs65.2 all_n) ⟨rfl, Nat.le_of_ble_eq_true (by kernel_rfl), rfl⟩ ?_
          refine t_done [(.agg [q0, q1, q2, q3, q4]), (.int .i64 change5), (.int .i64 priority6), (.agg [.empty, .empty, .empty, .empty, .empty]), (.agg [q0, q1, q2, q3, q4]), (.int .i64 k15), (.bool (decide (k15 ≤ (len28 : Int)))), (.bool placed17), (.bool true), (.agg [a58, a63, out21, out22, out23]), d24, d25, d26] H64 (by kernel_rfl) ?_
          refine then_norm ?_
          refine w_seq ?_
          refine w_run [0, 0, 1, 1, 0, 1] ?_
          obtain ⟨b66, H67, hb⟩ : ∃ b H', NewB H64 1 [(.int .i64 0)] b H' := ⟨_, _, rfl, rfl⟩
          replace h := h b66 H67 hb
          refine t_bs true 1 [(.int .i64 0)] [(0, 1, .loc 0)] 1 [(.int .i64 0)] [(.int .i64 0)] b66 H67 H64 (by kernel_rfl) (fill_c (vs := [(.int .i64 0)]) (size := 1) rfl (by kernel_rfl) (by kernel_rfl) (by kernel_rfl)) hb ?_
          obtain ⟨a68, H69, ha, h⟩ := h
          refine t_app true 1 8 out21 (.slice b66 0 1 (some 1)) a68 H69 H67 (by kernel_rfl) ha ?_
          obtain ⟨hs70, h⟩ := h
          refine t_upd true 1 2 [a58, a63, out21, out22, out23] a68 [a68] [a58, a63, a68, out22, out23] H69 (by kernel_rfl) hs70.1 (all_c hs70.2 all_n) ⟨rfl, Nat.le_of_ble_eq_true (by kernel_rfl), rfl⟩ ?_
          refine t_done [(.agg [q0, q1, q2, q3, q4]), (.int .i64 change5), (.int .i64 priority6), (.agg [.empty, .empty, .empty, .empty, .empty]), (.agg [q0, q1, q2, q3, q4]), (.int .i64 k15), (.bool (decide (k15 ≤ (len28 : Int)))), (.bool placed17), (.bool true), (.agg [a58, a63, a68, out22, out23]), d24, d25, d26] H69 (by kernel_rfl) ?_
          refine then_norm ?_
          refine w_run [0] ?_
          refine t_done [(.agg [q0, q1, q2, q3, q4]), (.int .i64 change5), (.int .i64 priority6), (.agg [.empty, .empty, .empty, .empty, .empty]), (.agg [q0, q1, q2, q3, q4]), (.int .i64 k15), (.bool (decide (k15 ≤ (len28 : Int)))), (.bool true), (.bool true), (.agg [a58, a63, a68, out22, out23]), d24, d25, d26] H69 (by kernel_rfl) ?_
          refine join_norm ⟨_, _, _, _, _, _, _, rfl, h⟩
      · replace h := h.2 ((is_not is_raw).f hc)
        refine t_gd false true (by kernel_rfl) (fun hn => by cases hn) (fun _ => ?_)
        refine t_gd false true (by kernel_rfl) (fun hn => by cases hn) (fun _ => ?_)
        refine t_gd false true (by kernel_rfl) (fun hn => by cases hn) (fun _ => ?_)
        refine t_gd false true (by kernel_rfl) (fun hn => by cases hn) (fun _ => ?_)
        refine t_gd false true (by kernel_rfl) (fun hn => by cases hn) (fun _ => ?_)
        refine t_gdU false (by kernel_rfl) ?_
        refine t_gdU false (by kernel_rfl) ?_
        refine t_gdU false (by kernel_rfl) ?_
        refine t_gdU false (by kernel_rfl) ?_
        refine t_gdU false (by kernel_rfl) ?_
        refine t_gdU false (by kernel_rfl) ?_
        refine t_gdU false (by kernel_rfl) ?_
        refine t_gd false true (by kernel_rfl) (fun hn => by cases hn) (fun _ => ?_)
        refine t_done [(.agg [q0, q1, q2, q3, q4]), (.int .i64 change5), (.int .i64 priority6), (.agg [.empty, .empty, .empty, .empty, .empty]), (.agg [q0, q1, q2, q3, q4]), (.int .i64 k15), (.bool (decide (k15 ≤ (len28 : Int)))), (.bool placed17), (.bool false), (.agg [out19, out20, out21, out22, out23]), d24, d25, d26] H27 (by kernel_rfl) ?_
        refine then_norm ?_
        refine w_cond (t := false) rfl (fun hc => by cases hc) (fun _ => ?_)
        refine w_skip ?_
        refine join_norm ⟨_, _, _, _, _, _, _, rfl, h⟩
    · clear h
      rintro EI H37 ⟨placed30, d31, out32, out33, out34, out35, out36, rfl, hJ⟩
      have h := hK placed30 out32 out33 out34 out35 out36 H37 hJ
      clear hJ hK
      refine then_norm ?_
      refine w_seq ?_
      refine w_run [0, 0, 0, 1, 0] ?_
      obtain ⟨len71, hl, h⟩ := h
      refine t_len true q0 len71 H37 (by kernel_rfl) hl ?_
      refine t_done [(.agg [q0, q1, q2, q3, q4]), (.int .i64 change5), (.int .i64 priority6), (.agg [.empty, .empty, .empty, .empty, .empty]), (.agg [q0, q1, q2, q3, q4]), (.int .i64 k15), (.bool (decide (k15 ≤ (len28 : Int)))), (.bool placed30), d31, (.agg [out32, out33, out34, out35, out36]), (.bool (decide (k15 < (len71 : Int)))), d25, d26] H37 (by kernel_rfl) ?_
      refine then_norm ?_
      refine w_cond (t := (decide (k15 < (len71 : Int)))) rfl (fun hc => ?_) (fun hc => ?_)
      · replace h := h.1 (is_dec.t hc)
        refine w_seq ?_
        refine w_run [0, 0, 0, 1, 1, 0] ?_
        obtain ⟨e72, hg73, h⟩ := h
        refine t_idxG true 1 q2 .i64 k15 H37 (by kernel_rfl) hg73 ?_
        refine t_loadG true none 1 q2 k15 0 (.int .i64 e72) H37 (by kernel_rfl) hg73 ?_
        refine t_done [(.agg [q0, q1, q2, q3, q4]), (.int .i64 change5), (.int .i64 priority6), (.agg [.empty, .empty, .empty, .empty, .empty]), (.agg [q0, q1, q2, q3, q4]), (.int .i64 k15), (.bool (decide (k15 ≤ (len28 : Int)))), (.bool placed30), d31, (.agg [out32, out33, out34, out35, out36]), (.bool (decide (k15 < (len71 : Int)))), d25, (.int .i64 e72)] H37 (by kernel_rfl) ?_
        refine then_norm ?_
        refine w_seq ?_
        refine w_seq ?_
        refine w_run [0] ?_
        refine t_done [(.agg [q0, q1, q2, q3, q4]), (.int .i64 change5), (.int .i64 priority6), (.agg [.empty, .empty, .empty, .empty, .empty]), (.agg [q0, q1, q2, q3, q4]), (.int .i64 k15), (.bool (decide (k15 ≤ (len28 : Int)))), (.bool placed30), d31, (.agg [out32, out33, out34, out35, out36]), (.bool (decide (k15 < (len71 : Int)))), (.bool placed30), (.int .i64 e72)] H37 (by kernel_rfl) ?_
        refine then_norm ?_
        refine w_cond (t := placed30) rfl (fun hc => ?_) (fun hc => ?_)
        · replace h := h.1 (is_raw.t hc)
          refine w_run [0] ?_
          refine t_done [(.agg [q0, q1, q2, q3, q4]), (.int .i64 change5), (.int .i64 priority6), (.agg [.empty, .empty, .empty, .empty, .empty]), (.agg [q0, q1, q2, q3, q4]), (.int .i64 k15), (.bool (decide (k15 ≤ (len28 : Int)))), (.bool placed30), d31, (.agg [out32, out33, out34, out35, out36]), (.bool (decide (k15 < (len71 : Int)))), (.bool placed30), (.int .i64 0)] H37 (by kernel_rfl) ?_
          refine then_norm ?_
          refine w_seq ?_
          refine w_run [0, 0, 0, 0, 0, 1, 1, 1, 1, 0, 1] ?_
          obtain ⟨e74, hg75, h⟩ := h
          refine t_idxG false 1 q0 .i64 k15 H37 (by kernel_rfl) hg75 ?_
          refine t_loadG false none 1 q0 k15 0 (.int .i64 e74) H37 (by kernel_rfl) hg75 ?_
          obtain ⟨b76, H77, hb⟩ : ∃ b H', NewB H37 1 [(.int .i64 e74)] b H' := ⟨_, _, rfl, rfl⟩
          replace h := h b76 H77 hb
          refine t_bs false 1 [(.int .i64 0)] [(0, 1, .loc 0)] 1 [(.int .i64 e74)] [(.int .i64 e74)] b76 H77 H37 (by kernel_rfl) (fill_c (vs := [(.int .i64 e74)]) (size := 1) rfl (by kernel_rfl) (by kernel_rfl) (by kernel_rfl)) hb ?_
          obtain ⟨a78, H79, ha, h⟩ := h
          refine t_app true 1 8 out32 (.slice b76 0 1 (some 1)) a78 H79 H77 (by kernel_rfl) ha ?_
          obtain ⟨hs80, h⟩ := h
          refine t_upd true 1 0 [out32, out33, out34, out35, out36] a78 [a78] [a78, out33, out34, out35, out36] H79 (by kernel_rfl) hs80.1 (all_c hs80.2 all_n) ⟨rfl, Nat.le_of_ble_eq_true (by kernel_rfl), rfl⟩ ?_
          refine t_done [(.agg [q0, q1, q2, q3, q4]), (.int .i64 change5), (.int .i64 priority6), (.agg [.empty, .empty, .empty, .empty, .empty]), (.agg [q0, q1, q2, q3, q4]), (.int .i64 k15), (.bool (decide (k15 ≤ (len28 : Int)))), (.bool placed30), d31, (.agg [a78, out33, out34, out35, out36]), (.bool (decide (k15 < (len71 : Int)))), (.bool placed30), (.int .i64 0)] H79 (by kernel_rfl) ?_
          refine then_norm ?_
          refine w_seq ?_
          refine w_run [0, 0, 0, 0, 0, 1, 1, 1, 1, 0, 1] ?_
          obtain ⟨e81, hg82, h⟩ := h
          refine t_idxG false 1 q1 .i64 k15 H79 (by kernel_rfl) hg82 ?_
          refine t_loadG false none 1 q1 k15 0 (.int .i64 e81) H79 (by kernel_rfl) hg82 ?_
          obtain ⟨b83, H84, hb⟩ : ∃ b H', NewB H79 1 [(.int .i64 e81)] b H' := ⟨_, _, rfl, rfl⟩
          replace h := h b83 H84 hb
          refine t_bs false 1 [(.int .i64 0)] [(0, 1, .loc 0)] 1 [(.int .i64 e81)] [(.int .i64 e81)] b83 H84 H79 (by kernel_rfl) (fill_c (vs := [(.int .i64 e81)]) (size := 1) rfl (by kernel_rfl) (by kernel_rfl) (by kernel_rfl)) hb ?_
          obtain ⟨a85, H86, ha, h⟩ := h
          refine t_app true 1 8 out33 (.slice b83 0 1 (some 1)) a85 H86 H84 (by kernel_rfl) ha ?_
          obtain ⟨hs87, h⟩ := h
          refine t_upd true 1 1 [a78, out33, out34, out35, out36] a85 [a85] [a78, a85, out34, out35, out36] H86 (by kernel_rfl) hs87.1 (all_c hs87.2 all_n) ⟨rfl, Nat.le_of_ble_eq_true (by kernel_rfl), rfl⟩ ?_
          refine t_done [(.agg [q0, q1, q2, q3, q4]), (.int .i64 change5), (.int .i64 priority6), (.agg [.empty, .empty, .empty, .empty, .empty]), (.agg [q0, q1, q2, q3, q4]), (.int .i64 k15), (.bool (decide (k15 ≤ (len28 : Int)))), (.bool placed30), d31, (.agg [a78, a85, out34, out35, out36]), (.bool (decide (k15 < (len71 : Int)))), (.bool placed30), (.int .i64 0)] H86 (by kernel_rfl) ?_
          refine then_norm ?_
          refine w_run [0, 0, 0, 1, 1, 0, 1] ?_
          obtain ⟨b88, H89, hb⟩ : ∃ b H', NewB H86 1 [(.int .i64 0)] b H' := ⟨_, _, rfl, rfl⟩
          replace h := h b88 H89 hb
          refine t_bs true 1 [(.int .i64 0)] [(0, 1, .loc 0)] 1 [(.int .i64 0)] [(.int .i64 0)] b88 H89 H86 (by kernel_rfl) (fill_c (vs := [(.int .i64 0)]) (size := 1) rfl (by kernel_rfl) (by kernel_rfl) (by kernel_rfl)) hb ?_
          obtain ⟨a90, H91, ha, h⟩ := h
          refine t_app true 1 8 out34 (.slice b88 0 1 (some 1)) a90 H91 H89 (by kernel_rfl) ha ?_
          obtain ⟨hs92, h⟩ := h
          refine t_upd true 1 2 [a78, a85, out34, out35, out36] a90 [a90] [a78, a85, a90, out35, out36] H91 (by kernel_rfl) hs92.1 (all_c hs92.2 all_n) ⟨rfl, Nat.le_of_ble_eq_true (by kernel_rfl), rfl⟩ ?_
          refine t_done [(.agg [q0, q1, q2, q3, q4]), (.int .i64 change5), (.int .i64 priority6), (.agg [.empty, .empty, .empty, .empty, .empty]), (.agg [q0, q1, q2, q3, q4]), (.int .i64 k15), (.bool (decide (k15 ≤ (len28 : Int)))), (.bool placed30), d31, (.agg [a78, a85, a90, out35, out36]), (.bool (decide (k15 < (len71 : Int)))), (.bool placed30), (.int .i64 0)] H91 (by kernel_rfl) ?_
          refine block_norm ?_
          refine then_norm ?_
          refine w_run [0, 0, 0] ?_
          refine t_done [(.agg [q0, q1, q2, q3, q4]), (.int .i64 change5), (.int .i64 priority6), (.agg [.empty, .empty, .empty, .empty, .empty]), (.agg [q0, q1, q2, q3, q4]), (.int .i64 (IntKind.wrap .i64 (k15 + 1))), (.bool (decide (k15 ≤ (len28 : Int)))), (.bool placed30), d31, (.agg [a78, a85, a90, out35, out36]), (.bool (decide (k15 < (len71 : Int)))), (.bool placed30), (.int .i64 0)] H91 (by kernel_rfl) ?_
          obtain ⟨m', hm, h⟩ := h
          refine loop_norm ⟨m', hm, _, _, _, _, _, _, _, _, _, _, _, _, rfl, h⟩
        · replace h := h.2 (is_raw.f hc)
          refine w_skip ?_
          refine then_norm ?_
          refine w_seq ?_
          refine w_run [0, 0, 0, 0, 0, 1, 1, 1, 1, 0, 1] ?_
          obtain ⟨e94, hg95, h⟩ := h
          refine t_idxG false 1 q0 .i64 k15 H37 (by kernel_rfl) hg95 ?_
          refine t_loadG false none 1 q0 k15 0 (.int .i64 e94) H37 (by kernel_rfl) hg95 ?_
          obtain ⟨b96, H97, hb⟩ : ∃ b H', NewB H37 1 [(.int .i64 e94)] b H' := ⟨_, _, rfl, rfl⟩
          replace h := h b96 H97 hb
          refine t_bs false 1 [(.int .i64 0)] [(0, 1, .loc 0)] 1 [(.int .i64 e94)] [(.int .i64 e94)] b96 H97 H37 (by kernel_rfl) (fill_c (vs := [(.int .i64 e94)]) (size := 1) rfl (by kernel_rfl) (by kernel_rfl) (by kernel_rfl)) hb ?_
          obtain ⟨a98, H99, ha, h⟩ := h
          refine t_app true 1 8 out32 (.slice b96 0 1 (some 1)) a98 H99 H97 (by kernel_rfl) ha ?_
          obtain ⟨hs100, h⟩ := h
          refine t_upd true 1 0 [out32, out33, out34, out35, out36] a98 [a98] [a98, out33, out34, out35, out36] H99 (by kernel_rfl) hs100.1 (all_c hs100.2 all_n) ⟨rfl, Nat.le_of_ble_eq_true (by kernel_rfl), rfl⟩ ?_
          refine t_done [(.agg [q0, q1, q2, q3, q4]), (.int .i64 change5), (.int .i64 priority6), (.agg [.empty, .empty, .empty, .empty, .empty]), (.agg [q0, q1, q2, q3, q4]), (.int .i64 k15), (.bool (decide (k15 ≤ (len28 : Int)))), (.bool placed30), d31, (.agg [a98, out33, out34, out35, out36]), (.bool (decide (k15 < (len71 : Int)))), (.bool placed30), (.int .i64 e72)] H99 (by kernel_rfl) ?_
          refine then_norm ?_
          refine w_seq ?_
          refine w_run [0, 0, 0, 0, 0, 1, 1, 1, 1, 0, 1] ?_
          obtain ⟨e101, hg102, h⟩ := h
          refine t_idxG false 1 q1 .i64 k15 H99 (by kernel_rfl) hg102 ?_
          refine t_loadG false none 1 q1 k15 0 (.int .i64 e101) H99 (by kernel_rfl) hg102 ?_
          obtain ⟨b103, H104, hb⟩ : ∃ b H', NewB H99 1 [(.int .i64 e101)] b H' := ⟨_, _, rfl, rfl⟩
          replace h := h b103 H104 hb
          refine t_bs false 1 [(.int .i64 0)] [(0, 1, .loc 0)] 1 [(.int .i64 e101)] [(.int .i64 e101)] b103 H104 H99 (by kernel_rfl) (fill_c (vs := [(.int .i64 e101)]) (size := 1) rfl (by kernel_rfl) (by kernel_rfl) (by kernel_rfl)) hb ?_
          obtain ⟨a105, H106, ha, h⟩ := h
          refine t_app true 1 8 out33 (.slice b103 0 1 (some 1)) a105 H106 H104 (by kernel_rfl) ha ?_
          obtain ⟨hs107, h⟩ := h
          refine t_upd true 1 1 [a98, out33, out34, out35, out36] a105 [a105] [a98, a105, out34, out35, out36] H106 (by kernel_rfl) hs107.1 (all_c hs107.2 all_n) ⟨rfl, Nat.le_of_ble_eq_true (by kernel_rfl), rfl⟩ ?_
          refine t_done [(.agg [q0, q1, q2, q3, q4]), (.int .i64 change5), (.int .i64 priority6), (.agg [.empty, .empty, .empty, .empty, .empty]), (.agg [q0, q1, q2, q3, q4]), (.int .i64 k15), (.bool (decide (k15 ≤ (len28 : Int)))), (.bool placed30), d31, (.agg [a98, a105, out34, out35, out36]), (.bool (decide (k15 < (len71 : Int)))), (.bool placed30), (.int .i64 e72)] H106 (by kernel_rfl) ?_
          refine then_norm ?_
          refine w_run [0, 0, 0, 1, 1, 0, 1] ?_
          obtain ⟨b108, H109, hb⟩ : ∃ b H', NewB H106 1 [(.int .i64 e72)] b H' := ⟨_, _, rfl, rfl⟩
          replace h := h b108 H109 hb
          refine t_bs true 1 [(.int .i64 0)] [(0, 1, .loc 0)] 1 [(.int .i64 e72)] [(.int .i64 e72)] b108 H109 H106 (by kernel_rfl) (fill_c (vs := [(.int .i64 e72)]) (size := 1) rfl (by kernel_rfl) (by kernel_rfl) (by kernel_rfl)) hb ?_
          obtain ⟨a110, H111, ha, h⟩ := h
          refine t_app true 1 8 out34 (.slice b108 0 1 (some 1)) a110 H111 H109 (by kernel_rfl) ha ?_
          obtain ⟨hs112, h⟩ := h
          refine t_upd true 1 2 [a98, a105, out34, out35, out36] a110 [a110] [a98, a105, a110, out35, out36] H111 (by kernel_rfl) hs112.1 (all_c hs112.2 all_n) ⟨rfl, Nat.le_of_ble_eq_true (by kernel_rfl), rfl⟩ ?_
          refine t_done [(.agg [q0, q1, q2, q3, q4]), (.int .i64 change5), (.int .i64 priority6), (.agg [.empty, .empty, .empty, .empty, .empty]), (.agg [q0, q1, q2, q3, q4]), (.int .i64 k15), (.bool (decide (k15 ≤ (len28 : Int)))), (.bool placed30), d31, (.agg [a98, a105, a110, out35, out36]), (.bool (decide (k15 < (len71 : Int)))), (.bool placed30), (.int .i64 e72)] H111 (by kernel_rfl) ?_
          refine block_norm ?_
          refine then_norm ?_
          refine w_run [0, 0, 0] ?_
          refine t_done [(.agg [q0, q1, q2, q3, q4]), (.int .i64 change5), (.int .i64 priority6), (.agg [.empty, .empty, .empty, .empty, .empty]), (.agg [q0, q1, q2, q3, q4]), (.int .i64 (IntKind.wrap .i64 (k15 + 1))), (.bool (decide (k15 ≤ (len28 : Int)))), (.bool placed30), d31, (.agg [a98, a105, a110, out35, out36]), (.bool (decide (k15 < (len71 : Int)))), (.bool placed30), (.int .i64 e72)] H111 (by kernel_rfl) ?_
          obtain ⟨m', hm, h⟩ := h
          refine loop_norm ⟨m', hm, _, _, _, _, _, _, _, _, _, _, _, _, rfl, h⟩
      · replace h := h.2 (is_dec.f hc)
        refine w_skip ?_
        refine block_norm ?_
        refine then_norm ?_
        refine w_run [0, 0, 0] ?_
        refine t_done [(.agg [q0, q1, q2, q3, q4]), (.int .i64 change5), (.int .i64 priority6), (.agg [.empty, .empty, .empty, .empty, .empty]), (.agg [q0, q1, q2, q3, q4]), (.int .i64 (IntKind.wrap .i64 (k15 + 1))), (.bool (decide (k15 ≤ (len28 : Int)))), (.bool placed30), d31, (.agg [out32, out33, out34, out35, out36]), (.bool (decide (k15 < (len71 : Int)))), d25, d26] H37 (by kernel_rfl) ?_
        obtain ⟨m', hm, h⟩ := h
        refine loop_norm ⟨m', hm, _, _, _, _, _, _, _, _, _, _, _, _, rfl, h⟩
  · replace h := h.2 (is_dec.f hc)
    refine w_exit ?_
    refine then_exit ?_
    refine loop_exit ?_
    refine block_exit ?_
    refine then_norm ?_
    refine w_seq ?_
    refine w_run [0, 1] ?_
    obtain ⟨hs115, h⟩ := h
    obtain ⟨hs116, h⟩ := h
    obtain ⟨hs117, h⟩ := h
    obtain ⟨hs118, h⟩ := h
    obtain ⟨hs119, h⟩ := h
    refine t_upd true 5 0 [.empty, .empty, .empty, .empty, .empty] (.agg [out19, out20, out21, out22, out23]) [out19, out20, out21, out22, out23] [out19, out20, out21, out22, out23] H27 (by kernel_rfl) rfl (all_c hs115.2 (all_c hs116.2 (all_c hs117.2 (all_c hs118.2 (all_c hs119.2 all_n))))) ⟨rfl, Nat.le_of_ble_eq_true (by kernel_rfl), rfl⟩ ?_
    refine t_done [(.agg [q0, q1, q2, q3, q4]), (.int .i64 change5), (.int .i64 priority6), (.agg [out19, out20, out21, out22, out23]), (.agg [q0, q1, q2, q3, q4]), (.int .i64 k15), (.bool (decide (k15 ≤ (len28 : Int)))), (.bool placed17), d18, (.agg [out19, out20, out21, out22, out23]), d24, d25, d26] H27 (by kernel_rfl) ?_
    refine then_norm ?_
    refine w_ret ?_
    exact body_ret (vs := [(.agg [out19, out20, out21, out22, out23])]) _ (by kernel_rfl) rfl h

def rf_FQueue_cut : RFunc := ⟨3, 11, [.part 3 (some 5)],
 ((.seq (.ops [⟨.tomb 1 (.var 0), none, (some 4), true⟩, ⟨.tomb 1 (.k (.agg [.empty, .empty, .empty, .empty, .empty])), none, (some 3), true⟩])
 ((.seq (.ops [o1 (.field 0 none (.var 4)), o1 (.field 3 none (.var 4)), o1 (.field 0 none (.var 4)), o1 (.field 4 none (.var 4)), o1 (.build [.empty, .empty, .empty, .empty, .empty] [(3, 1, (.loc 1)), (4, 1, (.loc 3))]), ⟨.tomb 1 (.k (.agg [.empty, .empty, .empty, .empty, .empty])), none, (some 9), true⟩, ⟨.upd 5 0 (.loc 5) (.loc 4), none, (some 9), true⟩])
 ((.seq ((.seq (.ops [⟨.move (.k (.int .i64 0)), none, (some 5), true⟩])
 (.block 0 (.loop ((.seq ((.seq (.ops [o1 (.move (.var 5)), o1 (.field 0 none (.var 4)), o1 (.field 0 none (.var 4)), o1 (.len (.loc 2)), ⟨.bin .lss .no (.loc 0) (.loc 3), none, (some 6), true⟩])
 (.cond (.var 6) (.skip) (.exit 0))))
 ((.seq (.block 1 ((.seq (.ops [o1 (.field 0 none (.var 4)), o1 (.field 2 none (.var 4)), o1 (.move (.var 5)), o1 (.indexAddr 1 (.loc 1) (.loc 2)), o1 (.load none (.loc 3)), ⟨.move (.loc 4), none, (some 10), true⟩])
 ((.seq ((.seq (.ops [o1 (.move (.var 5)), o1 (.move (.var 1)), o1 (.bin .gtr .no (.loc 0) (.loc 1)), o1 (.move (.loc 2)), o1 (.move (.var 2)), ⟨.pick (.loc 3) (.loc 4) (.k (.bool false)), none, (some 7), true⟩])
 (.cond (.var 7) (.ops [⟨.move (.k (.int .i64 0)), none, (some 10), true⟩]) (.skip))))
 ((.seq (.ops [o1 (.move (.var 5)), o1 (.move (.var 1)), ⟨.bin .neq .no (.loc 0) (.loc 1), none, (some 8), true⟩])
 (.cond (.var 8) ((.seq (.ops [⟨.field 0 none (.var 9), none, none, false⟩, ⟨.field 0 none (.var 9), none, none, false⟩, ⟨.field 0 none (.var 4), none, none, false⟩, ⟨.field 0 none (.var 4), none, none, false⟩, ⟨.move (.var 5), none, none, false⟩, ⟨.indexAddr 1 (.loc 3) (.loc 4), none, none, false⟩, ⟨.load none (.loc 5), none, none, false⟩, ⟨.buildSlice 1 [.int .i64 0] [(0, 1, (.loc 6))] 1, none, none, false⟩, o1 (.append 1 8 (.loc 1) (.loc 7)), o1 (.field 0 none (.var 9)), ⟨.upd 1 0 (.var 9) (.loc 8), none, (some 9), true⟩])
 ((.seq (.ops [⟨.field 0 none (.var 9), none, none, false⟩, ⟨.field 1 none (.var 9), none, none, false⟩, ⟨.field 0 none (.var 4), none, none, false⟩, ⟨.field 1 none (.var 4), none, none, false⟩, ⟨.move (.var 5), none, none, false⟩, ⟨.indexAddr 1 (.loc 3) (.loc 4), none, none, false⟩, ⟨.load none (.loc 5), none, none, false⟩, ⟨.buildSlice 1 [.int .i64 0] [(0, 1, (.loc 6))] 1, none, none, false⟩, o1 (.append 1 8 (.loc 1) (.loc 7)), o1 (.field 0 none (.var 9)), ⟨.upd 1 1 (.var 9) (.loc 8), none, (some 9), true⟩])
 (.ops [o1 (.field 0 none (.var 9)), o1 (.field 2 none (.var 9)), o1 (.move (.var 10)), o1 (.buildSlice 1 [.int .i64 0] [(0, 1, (.loc 2))] 1), o1 (.append 1 8 (.loc 1) (.loc 3)), o1 (.field 0 none (.var 9)), ⟨.upd 1 2 (.var 9) (.loc 4), none, (some 9), true⟩]))))) (.skip)))))))))
 (.ops [o1 (.move (.var 5)), o1 (.bin .add .no (.loc 0) (.k (.int .i64 1))), ⟨.move (.loc 1), none, (some 5), true⟩])))))))))
 ((.seq (.ops [o1 (.field 0 (some 5) (.var 9)), ⟨.upd 5 0 (.var 3) (.loc 0), none, (some 3), true⟩])
 (.ret))))))))), none⟩
theorem v_FQueue_cut {F : Nat → Option RFunc} {me : Nat} (hF : F me = some (rf_FQueue_cut )) {fl : Nat} {H : Heap} {Q : AV → Heap → Prop} (q0 : AV) (q1 : AV) (q2 : AV) (q3 : AV) (q4 : AV) (i5 : Int) (discard6 : Bool)
  (h : ∀ (H7 : Heap), Dead1 H 1 H7 → ∀ (H8 : Heap), Dead1 H7 1 H8 → Scal q3 ∧ Scal q4 ∧ ∀ (H11 : Heap), Dead1 H8 1 H11 → ∃ (J12 : Nat → Int → AV → AV → AV → AV → AV → Heap → Prop) (k13 : Nat), J12 k13 0 .empty .empty .empty q3 q4 H11 ∧ (∀ (m14 : Nat) (k15 : Int) (out19 : AV) (out20 : AV) (out21 : AV) (out22 : AV) (out23 : AV) (H25 : Heap), J12 m14 k15 out19 out20 out21 out22 out23 H25 → ∃ len26 : Nat, lenA q0 = some len26 ∧ ((k15 < (len26 : Int)) → ∃ (e27 : Int), getA H25 1 none q2 k15 0 = some (.int .i64 e27) ∧ ((((k15 > i5) ∧ (discard6 = true))) → ((k15 ≠ i5) → ∃ (e29 : Int), getA H25 1 none q0 k15 0 = some (.int .i64 e29) ∧ ∀ (b31 : Nat) (H32 : Heap), NewB H25 1 [(.int .i64 e29)] b31 H32 → ∃ (a33 : AV) (H34 : Heap), appA fl true 1 8 H32 out19 (.slice b31 0 1 (some 1)) = some (a33, H34) ∧ Scal a33 ∧ ∃ (e36 : Int), getA H34 1 none q1 k15 0 = some (.int .i64 e36) ∧ ∀ (b38 : Nat) (H39 : Heap), NewB H34 1 [(.int .i64 e36)] b38 H39 → ∃ (a40 : AV) (H41 : Heap), appA fl true 1 8 H39 out20 (.slice b38 0 1 (some 1)) = some (a40, H41) ∧ Scal a40 ∧ ∀ (b43 : Nat) (H44 : Heap), NewB H41 1 [(.int .i64 0)] b43 H44 → ∃ (a45 : AV) (H46 : Heap), appA fl true 1 8 H44 out21 (.slice b43 0 1 (some 1)) = some (a45, H46) ∧ Scal a45 ∧ ∃ m48 : Nat, m48 < m14 ∧ J12 m48 (IntKind.wrap .i64 (k15 + 1)) a33 a40 a45 out22 out23 H46) ∧ (¬(k15 ≠ i5) → ∃ m49 : Nat, m49 < m14 ∧ J12 m49 (IntKind.wrap .i64 (k15 + 1)) out19 out20 out21 out22 out23 H25)) ∧ (¬(((k15 > i5) ∧ (discard6 = true))) → ((k15 ≠ i5) → ∃ (e50 : Int), getA H25 1 none q0 k15 0 = some (.int .i64 e50) ∧ ∀ (b52 : Nat) (H53 : Heap), NewB H25 1 [(.int .i64 e50)] b52 H53 → ∃ (a54 : AV) (H55 : Heap), appA fl true 1 8 H53 out19 (.slice b52 0 1 (some 1)) = some (a54, H55) ∧ Scal a54 ∧ ∃ (e57 : Int), getA H55 1 none q1 k15 0 = some (.int .i64 e57) ∧ ∀ (b59 : Nat) (H60 : Heap), NewB H55 1 [(.int .i64 e57)] b59 H60 → ∃ (a61 : AV) (H62 : Heap), appA fl true 1 8 H60 out20 (.slice b59 0 1 (some 1)) = some (a61, H62) ∧ Scal a61 ∧ ∀ (b64 : Nat) (H65 : Heap), NewB H62 1 [(.int .i64 e27)] b64 H65 → ∃ (a66 : AV) (H67 : Heap), appA fl true 1 8 H65 out21 (.slice b64 0 1 (some 1)) = some (a66, H67) ∧ Scal a66 ∧ ∃ m69 : Nat, m69 < m14 ∧ J12 m69 (IntKind.wrap .i64 (k15 + 1)) a54 a61 a66 out22 out23 H67) ∧ (¬(k15 ≠ i5) → ∃ m70 : Nat, m70 < m14 ∧ J12 m70 (IntKind.wrap .i64 (k15 + 1)) out19 out20 out21 out22 out23 H25))) ∧ (¬(k15 < (len26 : Int)) → Scal out19 ∧ Scal out20 ∧ Scal out21 ∧ Scal out22 ∧ Scal out23 ∧ Q (.agg [out19, out20, out21, out22, out23]) H25))) : Ret F fl me [(.agg [q0, q1, q2, q3, q4]), (.int .i64 i5), (.bool discard6)] H Q := by
  refine ret_intro hF rfl ?_
  refine w_seq ?_
  refine w_run [1, 1] ?_
  obtain ⟨H7, hb⟩ : ∃ H', Dead1 H 1 H' := ⟨_, ⟨rfl⟩⟩
  replace h := h H7 hb
  refine t_tomb true 1 (.agg [q0, q1, q2, q3, q4]) [q0, q1, q2, q3, q4] H7 H (by kernel_rfl) rfl hb ?_
  obtain ⟨H8, hb⟩ : ∃ H', Dead1 H7 1 H' := ⟨_, ⟨rfl⟩⟩
  replace h := h H8 hb
  refine t_tomb true 1 (.agg [.empty, .empty, .empty, .empty, .empty]) [.empty, .empty, .empty, .empty, .empty] H8 H7 (by kernel_rfl) rfl hb ?_
  refine t_done [(.agg [q0, q1, q2, q3, q4]), (.int .i64 i5), (.bool discard6), (.agg [.empty, .empty, .empty, .empty, .empty]), (.agg [q0, q1, q2, q3, q4]), .undef, .undef, .undef, .undef, .undef, .undef] H8 (by kernel_rfl) ?_
  refine then_norm ?_
  refine w_seq ?_
  refine w_run [0, 0, 0, 0, 1, 1, 1] ?_
  obtain ⟨hs9, h⟩ := h
  obtain ⟨hs10, h⟩ := h
  refine t_build true [.empty, .empty, .empty, .empty, .empty] [(3, 1, .loc 0), (4, 1, .loc 1)] [q3, q4] [.empty, .empty, .empty, q3, q4] H8 (by kernel_rfl) (fill_c (vs := [q3]) (size := 1) hs9.1 (by kernel_rfl) (by kernel_rfl) (fill_c (vs := [q4]) (size := 1) hs10.1 (by kernel_rfl) (by kernel_rfl) (by kernel_rfl))) ?_
  obtain ⟨H11, hb⟩ : ∃ H', Dead1 H8 1 H' := ⟨_, ⟨rfl⟩⟩
  replace h := h H11 hb
  refine t_tomb true 1 (.agg [.empty, .empty, .empty, .empty, .empty]) [.empty, .empty, .empty, .empty, .empty] H11 H8 (by kernel_rfl) rfl hb ?_
  refine t_upd true 5 0 [.empty, .empty, .empty, .empty, .empty] (.agg [.empty, .empty, .empty, q3, q4]) [.empty, .empty, .empty, q3, q4] [.empty, .empty, .empty, q3, q4] H11 (by kernel_rfl) rfl (all_c rfl (all_c rfl (all_c rfl (all_c hs9.2 (all_c hs10.2 all_n))))) ⟨rfl, Nat.le_of_ble_eq_true (by kernel_rfl), rfl⟩ ?_
  refine t_done [(.agg [q0, q1, q2, q3, q4]), (.int .i64 i5), (.bool discard6), (.agg [.empty, .empty, .empty, .empty, .empty]), (.agg [q0, q1, q2, q3, q4]), .undef, .undef, .undef, .undef, (.agg [.empty, .empty, .empty, q3, q4]), .undef] H11 (by kernel_rfl) ?_
  refine then_norm ?_
  refine w_seq ?_
  refine w_seq ?_
  refine w_run [0] ?_
  refine t_done [(.agg [q0, q1, q2, q3, q4]), (.int .i64 i5), (.bool discard6), (.agg [.empty, .empty, .empty, .empty, .empty]), (.agg [q0, q1, q2, q3, q4]), (.int .i64 0), .undef, .undef, .undef, (.agg [.empty, .empty, .empty, q3, q4]), .undef] H11 (by kernel_rfl) ?_
  refine then_norm ?_
  refine w_block ?_
  obtain ⟨J12, k13, h0, h⟩ := h
  refine w_loop (I := fun mI EI HI => ∃ (k15 : Int) (d16 : AV) (d17 : AV) (d18 : AV) (out19 : AV) (out20 : AV) (out21 : AV) (out22 : AV) (out23 : AV) (d24 : AV), EI = [(.agg [q0, q1, q2, q3, q4]), (.int .i64 i5), (.bool discard6), (.agg [.empty, .empty, .empty, .empty, .empty]), (.agg [q0, q1, q2, q3, q4]), (.int .i64 k15), d16, d17, d18, (.agg [out19, out20, out21, out22, out23]), d24] ∧ J12 mI k15 out19 out20 out21 out22 out23 HI) ?_ k13 ⟨_, _, _, _, _, _, _, _, _, _, rfl, h0⟩
  clear h0
  rintro m14 EI H25 ⟨k15, d16, d17, d18, out19, out20, out21, out22, out23, d24, rfl, hJ⟩
  replace h := h m14 k15 out19 out20 out21 out22 out23 H25 hJ
  clear hJ
  refine w_seq ?_
  refine w_seq ?_
  refine w_run [0, 0, 0, 1, 0] ?_
  obtain ⟨len26, hl, h⟩ := h
  refine t_len true q0 len26 H25 (by kernel_rfl) hl ?_
  refine t_done [(.agg [q0, q1, q2, q3, q4]), (.int .i64 i5), (.bool discard6), (.agg [.empty, .empty, .empty, .empty, .empty]), (.agg [q0, q1, q2, q3, q4]), (.int .i64 k15), (.bool (decide (k15 < (len26 : Int)))), d17, d18, (.agg [out19, out20, out21, out22, out23]), d24] H25 (by kernel_rfl) ?_
  refine then_norm ?_
  refine w_cond (t := (decide (k15 < (len26 : Int)))) rfl (fun hc => ?_) (fun hc => ?_)
  · replace h := h.1 (is_dec.t hc)
    refine w_skip ?_
    refine then_norm ?_
    refine w_seq ?_
    refine w_block ?_
    refine w_seq ?_
    refine w_run [0, 0, 0, 1, 1, 0] ?_
    obtain ⟨e27, hg28, h⟩ := h
    refine t_idxG true 1 q2 .i64 k15 H25 (by kernel_rfl) hg28 ?_
    refine t_loadG true none 1 q2 k15 0 (.int .i64 e27) H25 (by kernel_rfl) hg28 ?_
    refine t_done [(.agg [q0, q1, q2, q3, q4]), (.int .i64 i5), (.bool discard6), (.agg [.empty, .empty, .empty, .empty, .empty]), (.agg [q0, q1, q2, q3, q4]), (.int .i64 k15), (.bool (decide (k15 < (len26 : Int)))), d17, d18, (.agg [out19, out20, out21, out22, out23]), (.int .i64 e27)] H25 (by kernel_rfl) ?_
    refine then_norm ?_
    refine w_seq ?_
    refine w_seq ?_
    refine w_run [0, 0, 0, 0, 0, 0] ?_
    refine t_done [(.agg [q0, q1, q2, q3, q4]), (.int .i64 i5), (.bool discard6), (.agg [.empty, .empty, .empty, .empty, .empty]), (.agg [q0, q1, q2, q3, q4]), (.int .i64 k15), (.bool (decide (k15 < (len26 : Int)))), (.bool ((decide (k15 > i5)) && discard6)), d18, (.agg [out19, out20, out21, out22, out23]), (.int .i64 e27)] H25 (by kernel_rfl) ?_
    refine then_norm ?_
    refine w_cond (t := ((decide (k15 > i5)) && discard6)) rfl (fun hc => ?_) (fun hc => ?_)
    · replace h := h.1 ((is_and is_dec is_raw).t hc)
      refine w_run [0] ?_
      refine t_done [(.agg [q0, q1, q2, q3, q4]), (.int .i64 i5), (.bool discard6), (.agg [.empty, .empty, .empty, .empty, .empty]), (.agg [q0, q1, q2, q3, q4]), (.int .i64 k15), (.bool (decide (k15 < (len26 : Int)))), (.bool ((decide (k15 > i5)) && discard6)), d18, (.agg [out19, out20, out21, out22, out23]), (.int .i64 0)] H25 (by kernel_rfl) ?_
      refine then_norm ?_
      refine w_seq ?_
      refine w_run [0, 0, 0] ?_
      refine t_done [(.agg [q0, q1, q2, q3, q4]), (.int .i64 i5), (.bool discard6), (.agg [.empty, .empty, .empty, .empty, .empty]), (.agg [q0, q1, q2, q3, q4]), (.int .i64 k15), (.bool (decide (k15 < (len26 : Int)))), (.bool ((decide (k15 > i5)) && discard6)), (.bool ((k15) != i5)), (.agg [out19, out20, out21, out22, out23]), (.int .i64 0)] H25 (by kernel_rfl) ?_
      refine then_norm ?_
      refine w_cond (t := ((k15) != i5)) rfl (fun hc => ?_) (fun hc => ?_)
      · replace h := h.1 (is_ne.t hc)
        refine w_seq ?_
        refine w_run [0, 0, 0, 0, 0, 1, 1, 1, 1, 0, 1] ?_
        obtain ⟨e29, hg30, h⟩ := h
        refine t_idxG false 1 q0 .i64 k15 H25 (by kernel_rfl) hg30 ?_
        refine t_loadG false none 1 q0 k15 0 (.int .i64 e29) H25 (by kernel_rfl) hg30 ?_
        obtain ⟨b31, H32, hb⟩ : ∃ b H', NewB H25 1 [(.int .i64 e29)] b H' := ⟨_, _, rfl, rfl⟩
        replace h := h b31 H32 hb
        refine t_bs false 1 [(.int .i64 0)] [(0, 1, .loc 0)] 1 [(.int .i64 e29)] [(.int .i64 e29)] b31 H32 H25 (by kernel_rfl) (fill_c (vs := [(.int .i64 e29)]) (size := 1) rfl (by kernel_rfl) (by kernel_rfl) (by kernel_rfl)) hb ?_
        obtain ⟨a33, H34, ha, h⟩ := h
        refine t_app true 1 8 out19 (.slice b31 0 1 (some 1)) a33 H34 H32 (by kernel_rfl) ha ?_
        obtain ⟨hs35, h⟩ := h
        refine t_upd true 1 0 [out19, out20, out21, out22, out23] a33 [a33] [a33, out20, out21, out22, out23] H34 (by kernel_rfl) hs35.1 (all_c hs35.2 all_n) ⟨rfl, Nat.le_of_ble_eq_true (by kernel_rfl), rfl⟩ ?_
        refine t_done [(.agg [q0, q1, q2, q3, q4]), (.int .i64 i5), (.bool discard6), (.agg [.empty, .empty, .empty, .empty, .empty]), (.agg [q0, q1, q2, q3, q4]), (.int .i64 k15), (.bool (decide (k15 < (len26 : Int)))), (.bool ((decide (k15 > i5)) && discard6)), (.bool ((k15) != i5)), (.agg [a33, out20, out21, out22, out23]), (.int .i64 0)] H34 (by kernel_rfl) ?_
        refine then_norm ?_
        refine w_seq ?_
        refine w_run [0, 0, 0, 0, 0, 1, 1, 1, 1, 0, 1] ?_
        obtain ⟨e36, hg37, h⟩ := h
        refine t_idxG false 1 q1 .i64 k15 H34 (by kernel_rfl) hg37 ?_
        refine t_loadG false none 1 q1 k15 0 (.int .i64 e36) H34 (by kernel_rfl) hg37 ?_
        obtain ⟨b38, H39, hb⟩ : ∃ b H', NewB H34 1 [(.int .i64 e36)] b H' := ⟨_, _, rfl, rfl⟩
        replace h := h b38 H39 hb
        refine t_bs false 1 [(.int .i64 0)] [(0, 1, .loc 0)] 1 [(.int .i64 e36)] [(.int .i64 e36)] b38 H39 H34 (by kernel_rfl) (fill_c (vs := [(.int .i64 e36)]) (size := 1) rfl (by kernel_rfl) (by kernel_rfl) (by kernel_rfl)) hb ?_
        obtain ⟨a40, H41, ha, h⟩ := h
        refine t_app true 1 8 out20 (.slice b38 0 1 (some 1)) a40 H41 H39 (by kernel_rfl) ha ?_
        obtain ⟨hs42, h⟩ := h
        refine t_upd true 1 1 [a33, out20, out21, out22, out23] a40 [a40] [a33, a40, out21, out22, out23] H41 (by kernel_rfl) hs42.1 (all_c hs42.2 all_n) ⟨rfl, Nat.le_of_ble_eq_true (by kernel_rfl), rfl⟩ ?_
        refine t_done [(.agg [q0, q1, q2, q3, q4]), (.int .i64 i5), (.bool discard6), (.agg [.empty, .empty, .empty, .empty, .empty]), (.agg [q0, q1, q2, q3, q4]), (.int .i64 k15), (.bool (decide (k15 < (len26 : Int)))), (.bool ((decide (k15 > i5)) && discard6)), (.bool ((k15) != i5)), (.agg [a33, a40, out21, out22, out23]), (.int .i64 0)] H41 (by kernel_rfl) ?_
        refine then_norm ?_
        refine w_run [0, 0, 0, 1, 1, 0, 1] ?_
        obtain ⟨b43, H44, hb⟩ : ∃ b H', NewB H41 1 [(.int .i64 0)] b H' := ⟨_, _, rfl, rfl⟩
        replace h := h b43 H44 hb
        refine t_bs true 1 [(.int .i64 0)] [(0, 1, .loc 0)] 1 [(.int .i64 0)] [(.int .i64 0)] b43 H44 H41 (by kernel_rfl) (fill_c (vs := [(.int .i64 0)]) (size := 1) rfl (by kernel_rfl) (by kernel_rfl) (by kernel_rfl)) hb ?_
        obtain ⟨a45, H46, ha, h⟩ := h
        refine t_app true 1 8 out21 (.slice b43 0 1 (some 1)) a45 H46 H44 (by kernel_rfl) ha ?_
        obtain ⟨hs47, h⟩ := h
        refine t_upd true 1 2 [a33, a40, out21, out22, out23] a45 [a45] [a33, a40, a45, out22, out23] H46 (by kernel_rfl) hs47.1 (all_c hs47.2 all_n) ⟨rfl, Nat.le_of_ble_eq_true (by kernel_rfl), rfl⟩ ?_
        refine t_done [(.agg [q0, q1, q2, q3, q4]), (.int .i64 i5), (.bool discard6), (.agg [.empty, .empty, .empty, .empty, .empty]), (.agg [q0, q1, q2, q3, q4]), (.int .i64 k15), (.bool (decide (k15 < (len26 : Int)))), (.bool ((decide (k15 > i5)) && discard6)), (.bool ((k15) != i5)), (.agg [a33, a40, a45, out22, out23]), (.int .i64 0)] H46 (by kernel_rfl) ?_
        refine block_norm ?_
        refine then_norm ?_
        refine w_run [0, 0, 0] ?_
        refine t_done [(.agg [q0, q1, q2, q3, q4]), (.int .i64 i5), (.bool discard6), (.agg [.empty, .empty, .empty, .empty, .empty]), (.agg [q0, q1, q2, q3, q4]), (.int .i64 (IntKind.wrap .i64 (k15 + 1))), (.bool (decide (k15 < (len26 : Int)))), (.bool ((decide (k15 > i5)) && discard6)), (.bool ((k15) != i5)), (.agg [a33, a40, a45, out22, out23]), (.int .i64 0)] H46 (by kernel_rfl) ?_
        obtain ⟨m', hm, h⟩ := h
        refine loop_norm ⟨m', hm, _, _, _, _, _, _, _, _, _, _, rfl, h⟩
      · replace h := h.2 (is_ne.f hc)
        refine w_skip ?_
        refine block_norm ?_
        refine then_norm ?_
        refine w_run [0, 0, 0] ?_
        refine t_done [(.agg [q0, q1, q2, q3, q4]), (.int .i64 i5), (.bool discard6), (.agg [.empty, .empty, .empty, .empty, .empty]), (.agg [q0, q1, q2, q3, q4]), (.int .i64 (IntKind.wrap .i64 (k15 + 1))), (.bool (decide (k15 < (len26 : Int)))), (.bool ((decide (k15 > i5)) && discard6)), (.bool ((k15) != i5)), (.agg [out19, out20, out21, out22, out23]), (.int .i64 0)] H25 (by kernel_rfl) ?_
        obtain ⟨m', hm, h⟩ := h
        refine loop_norm ⟨m', hm, _, _, _, _, _, _, _, _, _, _, rfl, h⟩
    · replace h := h.2 ((is_and is_dec is_raw).f hc)
      refine w_skip ?_
      refine then_norm ?_
      refine w_seq ?_
      refine w_run [0, 0, 0] ?_
      refine t_done [(.agg [q0, q1, q2, q3, q4]), (.int .i64 i5), (.bool discard6), (.agg [.empty, .empty, .empty, .empty, .empty]), (.agg [q0, q1, q2, q3, q4]), (.int .i64 k15), (.bool (decide (k15 < (len26 : Int)))), (.bool ((decide (k15 > i5)) && discard6)), (.bool ((k15) != i5)), (.agg [out19, out20, out21, out22, out23]), (.int .i64 e27)] H25 (by kernel_rfl) ?_
      refine then_norm ?_
      refine w_cond (t := ((k15) != i5)) rfl (fun hc => ?_) (fun hc => ?_)
      · replace h := h.1 (is_ne.t hc)
        refine w_seq ?_
        refine w_run [0, 0, 0, 0, 0, 1, 1, 1, 1, 0, 1] ?_
        obtain ⟨e50, hg51, h⟩ := h
        refine t_idxG false 1 q0 .i64 k15 H25 (by kernel_rfl) hg51 ?_
        refine t_loadG false none 1 q0 k15 0 (.int .i64 e50) H25 (by kernel_rfl) hg51 ?_
        obtain ⟨b52, H53, hb⟩ : ∃ b H', NewB H25 1 [(.int .i64 e50)] b H' := ⟨_, _, rfl, rfl⟩
        replace h := h b52 H53 hb
        refine t_bs false 1 [(.int .i64 0)] [(0, 1, .loc 0)] 1 [(.int .i64 e50)] [(.int .i64 e50)] b52 H53 H25 (by kernel_rfl) (fill_c (vs := [(.int .i64 e50)]) (size := 1) rfl (by kernel_rfl) (by kernel_rfl) (by kernel_rfl)) hb ?_
        obtain ⟨a54, H55, ha, h⟩ := h
        refine t_app true 1 8 out19 (.slice b52 0 1 (some 1)) a54 H55 H53 (by kernel_rfl) ha ?_
        obtain ⟨hs56, h⟩ := h
        refine t_upd true 1 0 [out19, out20, out21, out22, out23] a54 [a54] [a54, out20, out21, out22, out23] H55 (by kernel_rfl) hs56.1 (all_c hs56.2 all_n) ⟨rfl, Nat.le_of_ble_eq_true (by kernel_rfl), rfl⟩ ?_
        refine t_done [(.agg [q0, q1, q2, q3, q4]), (.int .i64 i5), (.bool discard6), (.agg [.empty, .empty, .empty, .empty, .empty]), (.agg [q0, q1, q2, q3, q4]), (.int .i64 k15), (.bool (decide (k15 < (len26 : Int)))), (.bool ((decide (k15 > i5)) && discard6)), (.bool ((k15) != i5)), (.agg [a54, out20, out21, out22, out23]), (.int .i64 e27)] H55 (by kernel_rfl) ?_
        refine then_norm ?_
        refine w_seq ?_
        refine w_run [0, 0, 0, 0, 0, 1, 1, 1, 1, 0, 1] ?_
        obtain ⟨e57, hg58, h⟩ := h
        refine t_idxG false 1 q1 .i64 k15 H55 (by kernel_rfl) hg58 ?_
        refine t_loadG false none 1 q1 k15 0 (.int .i64 e57) H55 (by kernel_rfl) hg58 ?_
        obtain ⟨b59, H60, hb⟩ : ∃ b H', NewB H55 1 [(.int .i64 e57)] b H' := ⟨_, _, rfl, rfl⟩
        replace h := h b59 H60 hb
        refine t_bs false 1 [(.int .i64 0)] [(0, 1, .loc 0)] 1 [(.int .i64 e57)] [(.int .i64 e57)] b59 H60 H55 (by kernel_rfl) (fill_c (vs := [(.int .i64 e57)]) (size := 1) rfl (by kernel_rfl) (by kernel_rfl) (by kernel_rfl)) hb ?_
        obtain ⟨a61, H62, ha, h⟩ := h
        refine t_app true 1 8 out20 (.slice b59 0 1 (some 1)) a61 H62 H60 (by kernel_rfl) ha ?_
        obtain ⟨hs63, h⟩ := h
        refine t_upd true 1 1 [a54, out20, out21, out22, out23] a61 [a61] [a54, a61, out21, out22, out23] H62 (by kernel_rfl) hs63.1 (all_c hs63.2 all_n) ⟨rfl, Nat.le_of_ble_eq_true (by kernel_rfl), rfl⟩ ?_
        refine t_done [(.agg [q0, q1, q2, q3, q4]), (.int .i64 i5), (.bool discard6), (.agg [.empty, .empty, .empty, .empty, .empty]), (.agg [q0, q1, q2, q3, q4]), (.int .i64 k15), (.bool (decide (k15 < (len26 : Int)))), (.bool ((decide (k15 > i5)) && discard6)), (.bool ((k15) != i5)), (.agg [a54, a61, out21, out22, out23]), (.int .i64 e27)] H62 (by kernel_rfl) ?_
        refine then_norm ?_
        refine w_run [0, 0, 0, 1, 1, 0, 1] ?_
        obtain ⟨b64, H65, hb⟩ : ∃ b H', NewB H62 1 [(.int .i64 e27)] b H' := ⟨_, _, rfl, rfl⟩
        replace h := h b64 H65 hb
        refine t_bs true 1 [(.int .i64 0)] [(0, 1, .loc 0)] 1 [(.int .i64 e27)] [(.int .i64 e27)] b64 H65 H62 (by kernel_rfl) (fill_c (vs := [(.int .i64 e27)]) (size := 1) rfl (by kernel_rfl) (by kernel_rfl) (by kernel_rfl)) hb ?_
        obtain ⟨a66, H67, ha, h⟩ := h
        refine t_app true 1 8 out21 (.slice b64 0 1 (some 1)) a66 H67 H65 (by kernel_rfl) ha ?_
        obtain ⟨hs68, h⟩ := h
        refine t_upd true 1 2 [a54, a61, out21, out22, out23] a66 [a66] [a54, a61, a66, out22, out23] H67 (by kernel_rfl) hs68.1 (all_c hs68.2 all_n) ⟨rfl, Nat.le_of_ble_eq_true (by kernel_rfl), rfl⟩ ?_
        refine t_done [(.agg [q0, q1, q2, q3, q4]), (.int .i64 i5), (.bool discard6), (.agg [.empty, .empty, .empty, .empty, .empty]), (.agg [q0, q1, q2, q3, q4]), (.int .i64 k15), (.bool (decide (k15 < (len26 : Int)))), (.bool ((decide (k15 > i5)) && discard6)), (.bool ((k15) != i5)), (.agg [a54, a61, a66, out22, out23]), (.int .i64 e27)] H67 (by kernel_rfl) ?_
        refine block_norm ?_
        refine then_norm ?_
        refine w_run [0, 0, 0] ?_
        refine t_done [(.agg [q0, q1, q2, q3, q4]), (.int .i64 i5), (.bool discard6), (.agg [.empty, .empty, .empty, .empty, .empty]), (.agg [q0, q1, q2, q3, q4]), (.int .i64 (IntKind.wrap .i64 (k15 + 1))), (.bool (decide (k15 < (len26 : Int)))), (.bool ((decide (k15 > i5)) && discard6)), (.bool ((k15) != i5)), (.agg [a54, a61, a66, out22, out23]), (.int .i64 e27)] H67 (by kernel_rfl) ?_
        obtain ⟨m', hm, h⟩ := h
        refine loop_norm ⟨m', hm, _, _, _, _, _, _, _, _, _, _, rfl, h⟩
      · replace h := h.2 (is_ne.f hc)
        refine w_skip ?_
        refine block_norm ?_
        refine then_norm ?_
        refine w_run [0, 0, 0] ?_
        refine t_done [(.agg [q0, q1, q2, q3, q4]), (.int .i64 i5), (.bool discard6), (.agg [.empty, .empty, .empty, .empty, .empty]), (.agg [q0, q1, q2, q3, q4]), (.int .i64 (IntKind.wrap .i64 (k15 + 1))), (.bool (decide (k15 < (len26 : Int)))), (.bool ((decide (k15 > i5)) && discard6)), (.bool ((k15) != i5)), (.agg [out19, out20, out21, out22, out23]), (.int .i64 e27)] H25 (by kernel_rfl) ?_
        obtain ⟨m', hm, h⟩ := h
        refine loop_norm ⟨m', hm, _, _, _, _, _, _, _, _, _, _, rfl, h⟩
  · replace h := h.2 (is_dec.f hc)
    refine w_exit ?_
    refine then_exit ?_
    refine loop_exit ?_
    refine block_exit ?_
    refine then_norm ?_
    refine w_seq ?_
    refine w_run [0, 1] ?_
    obtain ⟨hs71, h⟩ := h
    obtain ⟨hs72, h⟩ := h
    obtain ⟨hs73, h⟩ := h
    obtain ⟨hs74, h⟩ := h
    obtain ⟨hs75, h⟩ := h
    refine t_upd true 5 0 [.empty, .empty, .empty, .empty, .empty] (.agg [out19, out20, out21, out22, out23]) [out19, out20, out21, out22, out23] [out19, out20, out21, out22, out23] H25 (by kernel_rfl) rfl (all_c hs71.2 (all_c hs72.2 (all_c hs73.2 (all_c hs74.2 (all_c hs75.2 all_n))))) ⟨rfl, Nat.le_of_ble_eq_true (by kernel_rfl), rfl⟩ ?_
    refine t_done [(.agg [q0, q1, q2, q3, q4]), (.int .i64 i5), (.bool discard6), (.agg [out19, out20, out21, out22, out23]), (.agg [q0, q1, q2, q3, q4]), (.int .i64 k15), (.bool (decide (k15 < (len26 : Int)))), d17, d18, (.agg [out19, out20, out21, out22, out23]), d24] H25 (by kernel_rfl) ?_
    refine then_norm ?_
    refine w_ret ?_
    exact body_ret (vs := [(.agg [out19, out20, out21, out22, out23])]) _ (by kernel_rfl) rfl h

def rf_FQueue_settled (nFQueue_cut : Nat) : RFunc := ⟨2, 10, [.part 2 (some 5)],
 ((.seq (.ops [⟨.tomb 1 (.var 0), none, (some 3), true⟩, ⟨.tomb 1 (.k (.agg [.empty, .empty, .empty, .empty, .empty])), none, (some 2), true⟩])
 ((.seq (.block 0 (.loop ((.seq ((.seq (.ops [o1 (.field 0 none (.var 3)), o1 (.field 0 none (.var 3)), o1 (.len (.loc 1)), o1 (.bin .gtr .no (.loc 2) (.k (.int .i64 0))), o1 (.move (.loc 3)), o1 (.field 0 none (.var 3)), o1 (.field 2 none (.var 3)), ⟨.indexAddr 1 (.loc 6) (.k (.int .i64 0)), (some (4, true)), none, true⟩, ⟨.load none (.loc 7), (some (4, true)), none, true⟩, ⟨.bin .gtr .no (.loc 8) (.k (.int .i64 1)), (some (4, true)), none, true⟩, ⟨.pick (.loc 4) (.loc 9) (.k (.bool false)), none, (some 4), true⟩])
 (.cond (.var 4) (.skip) (.exit 0))))
 (.block 1 ((.seq (.ops [o1 (.field 0 none (.var 3)), o1 (.field 0 none (.var 3)), o1 (.indexAddr 1 (.loc 1) (.k (.int .i64 0))), o1 (.load none (.loc 2)), ⟨.move (.loc 3), none, (some 6), true⟩])
 ((.seq (.ops [o1 (.field 0 none (.var 3)), o1 (.field 2 none (.var 3)), o1 (.indexAddr 1 (.loc 1) (.k (.int .i64 0))), o1 (.load none (.loc 2)), ⟨.bin .eql .no (.loc 3) (.k (.int .i64 2)), none, (some 5), true⟩])
 (.cond (.var 5) ((.seq (.ops [o1 (.field 0 (some 5) (.var 3)), o1 (.callS nFQueue_cut [(.loc 0), (.k (.int .i64 0)), (.k (.bool false))]), ⟨.upd 5 0 (.var 3) (.loc 1), none, (some 3), true⟩])
 (.ops [o1 (.field 0 none (.var 3)), o1 (.field 3 none (.var 3)), o1 (.append 1 8 (.k (.empty)) (.loc 1)), o1 (.move (.var 6)), o1 (.buildSlice 1 [.int .i64 0] [(0, 1, (.loc 3))] 1), o1 (.append 1 8 (.loc 2) (.loc 4)), o1 (.field 0 none (.var 3)), ⟨.upd 1 3 (.var 3) (.loc 5), none, (some 3), true⟩]))) ((.seq (.ops [o1 (.field 0 (some 5) (.var 3)), o1 (.callS nFQueue_cut [(.loc 0), (.k (.int .i64 0)), (.k (.bool true))]), ⟨.upd 5 0 (.var 3) (.loc 1), none, (some 3), true⟩])
 (.ops [o1 (.field 0 none (.var 3)), o1 (.field 4 none (.var 3)), o1 (.append 1 8 (.k (.empty)) (.loc 1)), o1 (.move (.var 6)), o1 (.buildSlice 1 [.int .i64 0] [(0, 1, (.loc 3))] 1), o1 (.append 1 8 (.loc 2) (.loc 4)), o1 (.field 0 none (.var 3)), ⟨.upd 1 4 (.var 3) (.loc 5), none, (some 3), true⟩])))))))))))))
 ((.seq ((.seq (.ops [⟨.move (.k (.int .i64 0)), none, (some 7), true⟩])
 (.block 2 (.loop ((.seq ((.seq (.ops [o1 (.move (.var 7)), o1 (.field 0 none (.var 3)), o1 (.field 0 none (.var 3)), o1 (.len (.loc 2)), o1 (.bin .lss .no (.loc 0) (.loc 3)), o1 (.move (.loc 4)), o1 (.move (.var 7)), o1 (.move (.var 1)), o1 (.bin .lss .no (.loc 6) (.loc 7)), ⟨.pick (.loc 5) (.loc 8) (.k (.bool false)), none, (some 8), true⟩])
 (.cond (.var 8) (.skip) (.exit 2))))
 ((.seq (.block 3 ((.seq (.ops [o1 (.field 0 none (.var 3)), o1 (.field 2 none (.var 3)), o1 (.move (.var 7)), o1 (.indexAddr 1 (.loc 1) (.loc 2)), o1 (.load none (.loc 3)), ⟨.bin .eql .no (.loc 4) (.k (.int .i64 0)), none, (some 9), true⟩])
 (.cond (.var 9) (.ops [o1 (.field 0 none (.var 3)), o1 (.field 2 none (.var 3)), o1 (.move (.var 7)), o1 (.indexAddr 1 (.loc 1) (.loc 2)), o1 (.store 1 (.loc 3) (.k (.int .i64 1)) [])]) (.skip)))))
 (.ops [o1 (.move (.var 7)), o1 (.bin .add .no (.loc 0) (.k (.int .i64 1))), ⟨.move (.loc 1), none, (some 7), true⟩])))))))))
 ((.seq (.ops [o1 (.field 0 (some 5) (.var 3)), ⟨.upd 5 0 (.var 2) (.loc 0), none, (some 2), true⟩])
 (.ret))))))))), none⟩
theorem v_FQueue_settled {F : Nat → Option RFunc} {me nFQueue_cut : Nat} (hF : F me = some (rf_FQueue_settled nFQueue_cut)) {fl : Nat} {H : Heap} {Q : AV → Heap → Prop} (q0 : AV) (q1 : AV) (q2 : AV) (q3 : AV) (q4 : AV) (window5 : Int)
  (h : ∀ (H6 : Heap), Dead1 H 1 H6 → ∀ (H7 : Heap), Dead1 H6 1 H7 → ∃ (J8 : Nat → AV → AV → AV → AV → AV → Heap → Prop) (k9 : Nat), J8 k9 q0 q1 q2 q3 q4 H7 ∧ (∀ (m10 : Nat) (q11 : AV) (q12 : AV) (q13 : AV) (q14 : AV) (q15 : AV) (H19 : Heap), J8 m10 q11 q12 q13 q14 q15 H19 → ∃ len20 : Nat, lenA q11 = some len20 ∧ (((len20 : Int) > 0) → ∃ (e21 : Int), getA H19 1 none q13 0 0 = some (.int .i64 e21) ∧ ((e21 > 1) → ∃ (e23 : Int), getA H19 1 none q11 0 0 = some (.int .i64 e23) ∧ ∃ (e25 : Int), getA H19 1 none q13 0 0 = some (.int .i64 e25) ∧ ((e25 = 2) → Ret F fl nFQueue_cut [(.agg [q11, q12, q13, q14, q15]), (.int .i64 0), (.bool false)] H19 (fun v33 H32 => ∃ (r27 : AV) (r28 : AV) (r29 : AV) (r30 : AV) (r31 : AV), v33 = (.agg [r27, r28, r29, r30, r31]) ∧ Scal r27 ∧ Scal r28 ∧ Scal r29 ∧ Scal r30 ∧ Scal r31 ∧ ∃ (a39 : AV) (H40 : Heap), appA fl true 1 8 H32 .empty r30 = some (a39, H40) ∧ ∀ (b41 : Nat) (H42 : Heap), NewB H40 1 [(.int .i64 e23)] b41 H42 → ∃ (a43 : AV) (H44 : Heap), appA fl true 1 8 H42 a39 (.slice b41 0 1 (some 1)) = some (a43, H44) ∧ Scal a43 ∧ ∃ m46 : Nat, m46 < m10 ∧ J8 m46 r27 r28 r29 a43 r31 H44)) ∧ (¬(e25 = 2) → Ret F fl nFQueue_cut [(.agg [q11, q12, q13, q14, q15]), (.int .i64 0), (.bool true)] H19 (fun v53 H52 => ∃ (r47 : AV) (r48 : AV) (r49 : AV) (r50 : AV) (r51 : AV), v53 = (.agg [r47, r48, r49, r50, r51]) ∧ Scal r47 ∧ Scal r48 ∧ Scal r49 ∧ Scal r50 ∧ Scal r51 ∧ ∃ (a59 : AV) (H60 : Heap), appA fl true 1 8 H52 .empty r51 = some (a59, H60) ∧ ∀ (b61 : Nat) (H62 : Heap), NewB H60 1 [(.int .i64 e23)] b61 H62 → ∃ (a63 : AV) (H64 : Heap), appA fl true 1 8 H62 a59 (.slice b61 0 1 (some 1)) = some (a63, H64) ∧ Scal a63 ∧ ∃ m66 : Nat, m66 < m10 ∧ J8 m66 r47 r48 r49 r50 a63 H64))) ∧ (¬(e21 > 1) → ∃ (J67 : Nat → Int → Heap → Prop) (k68 : Nat), J67 k68 0 H19 ∧ (∀ (m69 : Nat) (i70 : Int) (H73 : Heap), J67 m69 i70 H73 → ∃ len74 : Nat, lenA q11 = some len74 ∧ ((((i70 < (len74 : Int)) ∧ (i70 < window5))) → ∃ (e75 : Int), getA H73 1 none q13 i70 0 = some (.int .i64 e75) ∧ ((e75 = 0) → ∃ b77 o78 : Nat, ptrA 1 q13 i70 = some (b77, o78) ∧ ∃ H79 : Heap, putA fl H73 b77 o78 1 (.int .i64 1) = some H79 ∧ ∃ m80 : Nat, m80 < m69 ∧ J67 m80 (IntKind.wrap .i64 (i70 + 1)) H79) ∧ (¬(e75 = 0) → ∃ m81 : Nat, m81 < m69 ∧ J67 m81 (IntKind.wrap .i64 (i70 + 1)) H73)) ∧ (¬(((i70 < (len74 : Int)) ∧ (i70 < window5))) → Scal q11 ∧ Scal q12 ∧ Scal q13 ∧ Scal q14 ∧ Scal q15 ∧ Q (.agg [q11, q12, q13, q14, q15]) H73)))) ∧ (¬((len20 : Int) > 0) → ∃ (J87 : Nat → Int → Heap → Prop) (k88 : Nat), J87 k88 0 H19 ∧ (∀ (m89 : Nat) (i90 : Int) (H93 : Heap), J87 m89 i90 H93 → ∃ len94 : Nat, lenA q11 = some len94 ∧ ((((i90 < (len94 : Int)) ∧ (i90 < window5))) → ∃ (e95 : Int), getA H93 1 none q13 i90 0 = some (.int .i64 e95) ∧ ((e95 = 0) → ∃ b97 o98 : Nat, ptrA 1 q13 i90 = some (b97, o98) ∧ ∃ H99 : Heap, putA fl H93 b97 o98 1 (.int .i64 1) = some H99 ∧ ∃ m100 : Nat, m100 < m89 ∧ J87 m100 (IntKind.wrap .i64 (i90 + 1)) H99) ∧ (¬(e95 = 0) → ∃ m101 : Nat, m101 < m89 ∧ J87 m101 (IntKind.wrap .i64 (i90 + 1)) H93)) ∧ (¬(((i90 < (len94 : Int)) ∧ (i90 < window5))) → Scal q11 ∧ Scal q12 ∧ Scal q13 ∧ Scal q14 ∧ Scal q15 ∧ Q (.agg [q11, q12, q13, q14, q15]) H93))))) : Ret F fl me [(.agg [q0, q1, q2, q3, q4]), (.int .i64 window5)] H Q := by
  refine ret_intro hF rfl ?_
  refine w_seq ?_
  refine w_run [1, 1] ?_
  obtain ⟨H6, hb⟩ : ∃ H', Dead1 H 1 H' := ⟨_, ⟨rfl⟩⟩
  replace h := h H6 hb
  refine t_tomb true 1 (.agg [q0, q1, q2, q3, q4]) [q0, q1, q2, q3, q4] H6 H (by kernel_rfl) rfl hb ?_
  obtain ⟨H7, hb⟩ : ∃ H', Dead1 H6 1 H' := ⟨_, ⟨rfl⟩⟩
  replace h := h H7 hb
  refine t_tomb true 1 (.agg [.empty, .empty, .empty, .empty, .empty]) [.empty, .empty, .empty, .empty, .empty] H7 H6 (by kernel_rfl) rfl hb ?_
  refine t_done [(.agg [q0, q1, q2, q3, q4]), (.int .i64 window5), (.agg [.empty, .empty, .empty, .empty, .empty]), (.agg [q0, q1, q2, q3, q4]), .undef, .undef, .undef, .undef, .undef, .undef] H7 (by kernel_rfl) ?_
  refine then_norm ?_
  refine w_seq ?_
  refine w_block ?_
  obtain ⟨J8, k9, h0, h⟩ := h
  refine w_loop (I := fun mI EI HI => ∃ (q11 : AV) (q12 : AV) (q13 : AV) (q14 : AV) (q15 : AV) (d16 : AV) (d17 : AV) (d18 : AV), EI = [(.agg [q0, q1, q2, q3, q4]), (.int .i64 window5), (.agg [.empty, .empty, .empty, .empty, .empty]), (.agg [q11, q12, q13, q14, q15]), d16, d17, d18, .undef, .undef, .undef] ∧ J8 mI q11 q12 q13 q14 q15 HI) ?_ k9 ⟨_, _, _, _, _, _, _, _, rfl, h0⟩
  clear h0
  rintro m10 EI H19 ⟨q11, q12, q13, q14, q15, d16, d17, d18, rfl, hJ⟩
  replace h := h m10 q11 q12 q13 q14 q15 H19 hJ
  clear hJ
  refine w_seq ?_
  refine w_seq ?_
  refine w_run [0, 0, 1, 0, 0, 0, 0, 3, 3, 2, 0] ?_
  obtain ⟨len20, hl, h⟩ := h
  refine t_len true q11 len20 H19 (by kernel_rfl) hl ?_
  refine t_gd (decide ((len20 : Int) > 0)) true (by kernel_rfl) (fun hc => ?_) (fun hc => ?_)
  · replace h := h.1 (is_dec.t hc)
    obtain ⟨e21, hg22, h⟩ := h
    refine t_idxG true 1 q13 .i64 0 H19 (by kernel_rfl) hg22 ?_
    refine t_gd true true (by kernel_rfl) (fun _ => ?_) (fun hn => by cases hn)
    refine t_loadG true none 1 q13 0 0 (.int .i64 e21) H19 (by kernel_rfl) hg22 ?_
    refine t_gd true true (by kernel_rfl) (fun _ => ?_) (fun hn => by cases hn)
    refine t_done [(.agg [q0, q1, q2, q3, q4]), (.int .i64 window5), (.agg [.empty, .empty, .empty, .empty, .empty]), (.agg [q11, q12, q13, q14, q15]), (.bool (decide (e21 > 1))), d17, d18, .undef, .undef, .undef] H19 (by kernel_rfl) ?_
    refine then_norm ?_
    refine w_cond (t := (decide (e21 > 1))) rfl (fun hc => ?_) (fun hc => ?_)
    · replace h := h.1 (is_dec.t hc)
      refine w_skip ?_
      refine then_norm ?_
      refine w_block ?_
      refine w_seq ?_
      refine w_run [0, 0, 1, 1, 0] ?_
      obtain ⟨e23, hg24, h⟩ := h
      refine t_idxG true 1 q11 .i64 0 H19 (by kernel_rfl) hg24 ?_
      refine t_loadG true none 1 q11 0 0 (.int .i64 e23) H19 (by kernel_rfl) hg24 ?_
      refine t_done [(.agg [q0, q1, q2, q3, q4]), (.int .i64 window5), (.agg [.empty, .empty, .empty, .empty, .empty]), (.agg [q11, q12, q13, q14, q15]), (.bool (decide (e21 > 1))), d17, (.int .i64 e23), .undef, .undef, .undef] H19 (by kernel_rfl) ?_
      refine then_norm ?_
      refine w_seq ?_
      refine w_run [0, 0, 1, 1, 0] ?_
      obtain ⟨e25, hg26, h⟩ := h
      refine t_idxG true 1 q13 .i64 0 H19 (by kernel_rfl) hg26 ?_
      refine t_loadG true none 1 q13 0 0 (.int .i64 e25) H19 (by kernel_rfl) hg26 ?_
      refine t_done [(.agg [q0, q1, q2, q3, q4]), (.int .i64 window5), (.agg [.empty, .empty, .empty, .empty, .empty]), (.agg [q11, q12, q13, q14, q15]), (.bool (decide (e21 > 1))), (.bool ((e25) == 2)), (.int .i64 e23), .undef, .undef, .undef] H19 (by kernel_rfl) ?_
      refine then_norm ?_
      refine w_cond (t := ((e25) == 2)) rfl (fun hc => ?_) (fun hc => ?_)
      · replace h := h.1 (is_eq.t hc)
        refine w_seq ?_
        refine w_run [0, 1, 1] ?_
        refine t_call true nFQueue_cut [(.agg [q11, q12, q13, q14, q15]), (.int .i64 0), (.bool false)] H19 (by kernel_rfl) h ?_
        clear h
        rintro _ H32 ⟨r27, r28, r29, r30, r31, rfl, h⟩
        obtain ⟨hs34, h⟩ := h
        obtain ⟨hs35, h⟩ := h
        obtain ⟨hs36, h⟩ := h
        obtain ⟨hs37, h⟩ := h
        obtain ⟨hs38, h⟩ := h
        refine t_upd true 5 0 [q11, q12, q13, q14, q15] (.agg [r27, r28, r29, r30, r31]) [r27, r28, r29, r30, r31] [r27, r28, r29, r30, r31] H32 (by kernel_rfl) rfl (all_c hs34.2 (all_c hs35.2 (all_c hs36.2 (all_c hs37.2 (all_c hs38.2 all_n))))) ⟨rfl, Nat.le_of_ble_eq_true (by kernel_rfl), rfl⟩ ?_
        refine t_done [(.agg [q0, q1, q2, q3, q4]), (.int .i64 window5), (.agg [.empty, .empty, .empty, .empty, .empty]), (.agg [r27, r28, r29, r30, r31]), (.bool (decide (e21 > 1))), (.bool ((e25) == 2)), (.int .i64 e23), .undef, .undef, .undef] H32 (by kernel_rfl) ?_
        refine then_norm ?_
        refine w_run [0, 0, 1, 0, 1, 1, 0, 1] ?_
        obtain ⟨a39, H40, ha, h⟩ := h
        refine t_app true 1 8 .empty r30 a39 H40 H32 (by kernel_rfl) ha ?_
        obtain ⟨b41, H42, hb⟩ : ∃ b H', NewB H40 1 [(.int .i64 e23)] b H' := ⟨_, _, rfl, rfl⟩
        replace h := h b41 H42 hb
        refine t_bs true 1 [(.int .i64 0)] [(0, 1, .loc 0)] 1 [(.int .i64 e23)] [(.int .i64 e23)] b41 H42 H40 (by kernel_rfl) (fill_c (vs := [(.int .i64 e23)]) (size := 1) rfl (by kernel_rfl) (by kernel_rfl) (by kernel_rfl)) hb ?_
        obtain ⟨a43, H44, ha, h⟩ := h
        refine t_app true 1 8 a39 (.slice b41 0 1 (some 1)) a43 H44 H42 (by kernel_rfl) ha ?_
        obtain ⟨hs45, h⟩ := h
        refine t_upd true 1 3 [r27, r28, r29, r30, r31] a43 [a43] [r27, r28, r29, a43, r31] H44 (by kernel_rfl) hs45.1 (all_c hs45.2 all_n) ⟨rfl, Nat.le_of_ble_eq_true (by kernel_rfl), rfl⟩ ?_
        refine t_done [(.agg [q0, q1, q2, q3, q4]), (.int .i64 window5), (.agg [.empty, .empty, .empty, .empty, .empty]), (.agg [r27, r28, r29, a43, r31]), (.bool (decide (e21 > 1))), (.bool ((e25) == 2)), (.int .i64 e23), .undef, .undef, .undef] H44 (by kernel_rfl) ?_
        refine block_norm ?_
        obtain ⟨m', hm, h⟩ := h
        refine loop_norm ⟨m', hm, _, _, _, _, _, _, _, _, rfl, h⟩
      · replace h := h.2 (is_eq.f hc)
        refine w_seq ?_
        refine w_run [0, 1, 1] ?_
        refine t_call true nFQueue_cut [(.agg [q11, q12, q13, q14, q15]), (.int .i64 0), (.bool true)] H19 (by kernel_rfl) h ?_
        clear h
        rintro _ H52 ⟨r47, r48, r49, r50, r51, rfl, h⟩
        obtain ⟨hs54, h⟩ := h
        obtain ⟨hs55, h⟩ := h
        obtain ⟨hs56, h⟩ := h
        obtain ⟨hs57, h⟩ := h
        obtain ⟨hs58, h⟩ := h
        refine t_upd true 5 0 [q11, q12, q13, q14, q15] (.agg [r47, r48, r49, r50, r51]) [r47, r48, r49, r50, r51] [r47, r48, r49, r50, r51] H52 (by kernel_rfl) rfl (all_c hs54.2 (all_c hs55.2 (all_c hs56.2 (all_c hs57.2 (all_c hs58.2 all_n))))) ⟨rfl, Nat.le_of_ble_eq_true (by kernel_rfl), rfl⟩ ?_
        refine t_done [(.agg [q0, q1, q2, q3, q4]), (.int .i64 window5), (.agg [.empty, .empty, .empty, .empty, .empty]), (.agg [r47, r48, r49, r50, r51]), (.bool (decide (e21 > 1))), (.bool ((e25) == 2)), (.int .i64 e23), .undef, .undef, .undef] H52 (by kernel_rfl) ?_
        refine then_norm ?_
        refine w_run [0, 0, 1, 0, 1, 1, 0, 1] ?_
        obtain ⟨a59, H60, ha, h⟩ := h
        refine t_app true 1 8 .empty r51 a59 H60 H52 (by kernel_rfl) ha ?_
        obtain ⟨b61, H62, hb⟩ : ∃ b H', NewB H60 1 [(.int .i64 e23)] b H' := ⟨_, _, rfl, rfl⟩
        replace h := h b61 H62 hb
        refine t_bs true 1 [(.int .i64 0)] [(0, 1, .loc 0)] 1 [(.int .i64 e23)] [(.int .i64 e23)] b61 H62 H60 (by kernel_rfl) (fill_c (vs := [(.int .i64 e23)]) (size := 1) rfl (by kernel_rfl) (by kernel_rfl) (by kernel_rfl)) hb ?_
        obtain ⟨a63, H64, ha, h⟩ := h
        refine t_app true 1 8 a59 (.slice b61 0 1 (some 1)) a63 H64 H62 (by kernel_rfl) ha ?_
        obtain ⟨hs65, h⟩ := h
        refine t_upd true 1 4 [r47, r48, r49, r50, r51] a63 [a63] [r47, r48, r49, r50, a63] H64 (by kernel_rfl) hs65.1 (all_c hs65.2 all_n) ⟨rfl, Nat.le_of_ble_eq_true (by kernel_rfl), rfl⟩ ?_
        refine t_done [(.agg [q0, q1, q2, q3, q4]), (.int .i64 window5), (.agg [.empty, .empty, .empty, .empty, .empty]), (.agg [r47, r48, r49, r50, a63]), (.bool (decide (e21 > 1))), (.bool ((e25) == 2)), (.int .i64 e23), .undef, .undef, .undef] H64 (by kernel_rfl) ?_
        refine block_norm ?_
        obtain ⟨m', hm, h⟩ := h
        refine loop_norm ⟨m', hm, _, _, _, _, _, _, _, _, rfl, h⟩
    · replace h := h.2 (is_dec.f hc)
      refine w_exit ?_
      refine then_exit ?_
      refine loop_exit ?_
      refine block_exit ?_
      refine then_norm ?_
      refine w_seq ?_
      refine w_seq ?_
      refine w_run [0] ?_
      refine t_done [(.agg [q0, q1, q2, q3, q4]), (.int .i64 window5), (.agg [.empty, .empty, .empty, .empty, .empty]), (.agg [q11, q12, q13, q14, q15]), (.bool (decide (e21 > 1))), d17, d18, (.int .i64 0), .undef, .undef] H19 (by kernel_rfl) ?_
      refine then_norm ?_
      refine w_block ?_
      obtain ⟨J67, k68, h0, h⟩ := h
      refine w_loop (I := fun mI EI HI => ∃ (i70 : Int) (d71 : AV) (d72 : AV), EI = [(.agg [q0, q1, q2, q3, q4]), (.int .i64 window5), (.agg [.empty, .empty, .empty, .empty, .empty]), (.agg [q11, q12, q13, q14, q15]), (.bool (decide (e21 > 1))), d17, d18, (.int .i64 i70), d71, d72] ∧ J67 mI i70 HI) ?_ k68 ⟨_, _, _, rfl, h0⟩
      clear h0
      rintro m69 EI H73 ⟨i70, d71, d72, rfl, hJ⟩
      replace h := h m69 i70 H73 hJ
      clear hJ
      refine w_seq ?_
      refine w_seq ?_
      refine w_run [0, 0, 0, 1, 0, 0, 0, 0, 0, 0] ?_
      obtain ⟨len74, hl, h⟩ := h
      refine t_len true q11 len74 H73 (by kernel_rfl) hl ?_
      refine t_done [(.agg [q0, q1, q2, q3, q4]), (.int .i64 window5), (.agg [.empty, .empty, .empty, .empty, .empty]), (.agg [q11, q12, q13, q14, q15]), (.bool (decide (e21 > 1))), d17, d18, (.int .i64 i70), (.bool ((decide (i70 < (len74 : Int))) && (decide (i70 < window5)))), d72] H73 (by kernel_rfl) ?_
      refine then_norm ?_
      refine w_cond (t := ((decide (i70 < (len74 : Int))) && (decide (i70 < window5)))) rfl (fun hc => ?_) (fun hc => ?_)
      · replace h := h.1 ((is_and is_dec is_dec).t hc)
        refine w_skip ?_
        refine then_norm ?_
        refine w_seq ?_
        refine w_block ?_
        refine w_seq ?_
        refine w_run [0, 0, 0, 1, 1, 0] ?_
        obtain ⟨e75, hg76, h⟩ := h
        refine t_idxG true 1 q13 .i64 i70 H73 (by kernel_rfl) hg76 ?_
        refine t_loadG true none 1 q13 i70 0 (.int .i64 e75) H73 (by kernel_rfl) hg76 ?_
        refine t_done [(.agg [q0, q1, q2, q3, q4]), (.int .i64 window5), (.agg [.empty, .empty, .empty, .empty, .empty]), (.agg [q11, q12, q13, q14, q15]), (.bool (decide (e21 > 1))), d17, d18, (.int .i64 i70), (.bool ((decide (i70 < (len74 : Int))) && (decide (i70 < window5)))), (.bool ((e75) == 0))] H73 (by kernel_rfl) ?_
        refine then_norm ?_
        refine w_cond (t := ((e75) == 0)) rfl (fun hc => ?_) (fun hc => ?_)
        · replace h := h.1 (is_eq.t hc)
          refine w_run [0, 0, 0, 1, 1] ?_
          obtain ⟨b77, o78, hp, h⟩ := h
          refine t_idx true 1 q13 .i64 i70 b77 o78 H73 (by kernel_rfl) hp ?_
          obtain ⟨H79, hp, h⟩ := h
          refine t_store true 1 b77 o78 (.int .i64 1) H79 H73 (by kernel_rfl) hp ?_
          refine t_done [(.agg [q0, q1, q2, q3, q4]), (.int .i64 window5), (.agg [.empty, .empty, .empty, .empty, .empty]), (.agg [q11, q12, q13, q14, q15]), (.bool (decide (e21 > 1))), d17, d18, (.int .i64 i70), (.bool ((decide (i70 < (len74 : Int))) && (decide (i70 < window5)))), (.bool ((e75) == 0))] H79 (by kernel_rfl) ?_
          refine block_norm ?_
          refine then_norm ?_
          refine w_run [0, 0, 0] ?_
          refine t_done [(.agg [q0, q1, q2, q3, q4]), (.int .i64 window5), (.agg [.empty, .empty, .empty, .empty, .empty]), (.agg [q11, q12, q13, q14, q15]), (.bool (decide (e21 > 1))), d17, d18, (.int .i64 (IntKind.wrap .i64 (i70 + 1))), (.bool ((decide (i70 < (len74 : Int))) && (decide (i70 < window5)))), (.bool ((e75) == 0))] H79 (by kernel_rfl) ?_
          obtain ⟨m', hm, h⟩ := h
          refine loop_norm ⟨m', hm, _, _, _, rfl, h⟩
        · replace h := h.2 (is_eq.f hc)
          refine w_skip ?_
          refine block_norm ?_
          refine then_norm ?_
          refine w_run [0, 0, 0] ?_
          refine t_done [(.agg [q0, q1, q2, q3, q4]), (.int .i64 window5), (.agg [.empty, .empty, .empty, .empty, .empty]), (.agg [q11, q12, q13, q14, q15]), (.bool (decide (e21 > 1))), d17, d18, (.int .i64 (IntKind.wrap .i64 (i70 + 1))), (.bool ((decide (i70 < (len74 : Int))) && (decide (i70 < window5)))), (.bool ((e75) == 0))] H73 (by kernel_rfl) ?_
          obtain ⟨m', hm, h⟩ := h
          refine loop_norm ⟨m', hm, _, _, _, rfl, h⟩
      · replace h := h.2 ((is_and is_dec is_dec).f hc)
        refine w_exit ?_
        refine then_exit ?_
        refine loop_exit ?_
        refine block_exit ?_
        refine then_norm ?_
        refine w_seq ?_
        refine w_run [0, 1] ?_
        obtain ⟨hs82, h⟩ := h
        obtain ⟨hs83, h⟩ := h
        obtain ⟨hs84, h⟩ := h
        obtain ⟨hs85, h⟩ := h
        obtain ⟨hs86, h⟩ := h
        refine t_upd true 5 0 [.empty, .empty, .empty, .empty, .empty] (.agg [q11, q12, q13, q14, q15]) [q11, q12, q13, q14, q15] [q11, q12, q13, q14, q15] H73 (by kernel_rfl) rfl (all_c hs82.2 (all_c hs83.2 (all_c hs84.2 (all_c hs85.2 (all_c hs86.2 all_n))))) ⟨rfl, Nat.le_of_ble_eq_true (by kernel_rfl), rfl⟩ ?_
        refine t_done [(.agg [q0, q1, q2, q3, q4]), (.int .i64 window5), (.agg [q11, q12, q13, q14, q15]), (.agg [q11, q12, q13, q14, q15]), (.bool (decide (e21 > 1))), d17, d18, (.int .i64 i70), (.bool ((decide (i70 < (len74 : Int))) && (decide (i70 < window5)))), d72] H73 (by kernel_rfl) ?_
        refine then_norm ?_
        refine w_ret ?_
        exact body_ret (vs := [(.agg [q11, q12, q13, q14, q15])]) _ (by kernel_rfl) rfl h
  · replace h := h.2 (is_dec.f hc)
    refine t_gd false true (by kernel_rfl) (fun hn => by cases hn) (fun _ => ?_)
    refine t_gd false true (by kernel_rfl) (fun hn => by cases hn) (fun _ => ?_)
    refine t_done [(.agg [q0, q1, q2, q3, q4]), (.int .i64 window5), (.agg [.empty, .empty, .empty, .empty, .empty]), (.agg [q11, q12, q13, q14, q15]), (.bool false), d17, d18, .undef, .undef, .undef] H19 (by kernel_rfl) ?_
    refine then_norm ?_
    refine w_cond (t := false) rfl (fun hc => by cases hc) (fun _ => ?_)
    refine w_exit ?_
    refine then_exit ?_
    refine loop_exit ?_
    refine block_exit ?_
    refine then_norm ?_
    refine w_seq ?_
    refine w_seq ?_
    refine w_run [0] ?_
    refine t_done [(.agg [q0, q1, q2, q3, q4]), (.int .i64 window5), (.agg [.empty, .empty, .empty, .empty, .empty]), (.agg [q11, q12, q13, q14, q15]), (.bool false), d17, d18, (.int .i64 0), .undef, .undef] H19 (by kernel_rfl) ?_
    refine then_norm ?_
    refine w_block ?_
    obtain ⟨J87, k88, h0, h⟩ := h
    refine w_loop (I := fun mI EI HI => ∃ (i90 : Int) (d91 : AV) (d92 : AV), EI = [(.agg [q0, q1, q2, q3, q4]), (.int .i64 window5), (.agg [.empty, .empty, .empty, .empty, .empty]), (.agg [q11, q12, q13, q14, q15]), (.bool false), d17, d18, (.int .i64 i90), d91, d92] ∧ J87 mI i90 HI) ?_ k88 ⟨_, _, _, rfl, h0⟩
    clear h0
    rintro m89 EI H93 ⟨i90, d91, d92, rfl, hJ⟩
    replace h := h m89 i90 H93 hJ
    clear hJ
    refine w_seq ?_
    refine w_seq ?_
    refine w_run [0, 0, 0, 1, 0, 0, 0, 0, 0, 0] ?_
    obtain ⟨len94, hl, h⟩ := h
    refine t_len true q11 len94 H93 (by kernel_rfl) hl ?_
    refine t_done [(.agg [q0, q1, q2, q3, q4]), (.int .i64 window5), (.agg [.empty, .empty, .empty, .empty, .empty]), (.agg [q11, q12, q13, q14, q15]), (.bool false), d17, d18, (.int .i64 i90), (.bool ((decide (i90 < (len94 : Int))) && (decide (i90 < window5)))), d92] H93 (by kernel_rfl) ?_
    refine then_norm ?_
    refine w_cond (t := ((decide (i90 < (len94 : Int))) && (decide (i90 < window5)))) rfl (fun hc => ?_) (fun hc => ?_)
    · replace h := h.1 ((is_and is_dec is_dec).t hc)
      refine w_skip ?_
      refine then_norm ?_
      refine w_seq ?_
      refine w_block ?_
      refine w_seq ?_
      refine w_run [0, 0, 0, 1, 1, 0] ?_
      obtain ⟨e95, hg96, h⟩ := h
      refine t_idxG true 1 q13 .i64 i90 H93 (by kernel_rfl) hg96 ?_
      refine t_loadG true none 1 q13 i90 0 (.int .i64 e95) H93 (by kernel_rfl) hg96 ?_
      refine t_done [(.agg [q0, q1, q2, q3, q4]), (.int .i64 window5), (.agg [.empty, .empty, .empty, .empty, .empty]), (.agg [q11, q12, q13, q14, q15]), (.bool false), d17, d18, (.int .i64 i90), (.bool ((decide (i90 < (len94 : Int))) && (decide (i90 < window5)))), (.bool ((e95) == 0))] H93 (by kernel_rfl) ?_
      refine then_norm ?_
      refine w_cond (t := ((e95) == 0)) rfl (fun hc => ?_) (fun hc => ?_)
      · replace h := h.1 (is_eq.t hc)
        refine w_run [0, 0, 0, 1, 1] ?_
        obtain ⟨b97, o98, hp, h⟩ := h
        refine t_idx true 1 q13 .i64 i90 b97 o98 H93 (by kernel_rfl) hp ?_
        obtain ⟨H99, hp, h⟩ := h
        refine t_store true 1 b97 o98 (.int .i64 1) H99 H93 (by kernel_rfl) hp ?_
        refine t_done [(.agg [q0, q1, q2, q3, q4]), (.int .i64 window5), (.agg [.empty, .empty, .empty, .empty, .empty]), (.agg [q11, q12, q13, q14, q15]), (.bool false), d17, d18, (.int .i64 i90), (.bool ((decide (i90 < (len94 : Int))) && (decide (i90 < window5)))), (.bool ((e95) == 0))] H99 (by kernel_rfl) ?_
        refine block_norm ?_
        refine then_norm ?_
        refine w_run [0, 0, 0] ?_
        refine t_done [(.agg [q0, q1, q2, q3, q4]), (.int .i64 window5), (.agg [.empty, .empty, .empty, .empty, .empty]), (.agg [q11, q12, q13, q14, q15]), (.bool false), d17, d18, (.int .i64 (IntKind.wrap .i64 (i90 + 1))), (.bool ((decide (i90 < (len94 : Int))) && (decide (i90 < window5)))), (.bool ((e95) == 0))] H99 (by kernel_rfl) ?_
        obtain ⟨m', hm, h⟩ := h
        refine loop_norm ⟨m', hm, _, _, _, rfl, h⟩
      · replace h := h.2 (is_eq.f hc)
        refine w_skip ?_
        refine block_norm ?_
        refine then_norm ?_
        refine w_run [0, 0, 0] ?_
        refine t_done [(.agg [q0, q1, q2, q3, q4]), (.int .i64 window5), (.agg [.empty, .empty, .empty, .empty, .empty]), (.agg [q11, q12, q13, q14, q15]), (.bool false), d17, d18, (.int .i64 (IntKind.wrap .i64 (i90 + 1))), (.bool ((decide (i90 < (len94 : Int))) && (decide (i90 < window5)))), (.bool ((e95) == 0))] H93 (by kernel_rfl) ?_
        obtain ⟨m', hm, h⟩ := h
        refine loop_norm ⟨m', hm, _, _, _, rfl, h⟩
    · replace h := h.2 ((is_and is_dec is_dec).f hc)
      refine w_exit ?_
      refine then_exit ?_
      refine loop_exit ?_
      refine block_exit ?_
      refine then_norm ?_
      refine w_seq ?_
      refine w_run [0, 1] ?_
      obtain ⟨hs102, h⟩ := h
      obtain ⟨hs103, h⟩ := h
      obtain ⟨hs104, h⟩ := h
      obtain ⟨hs105, h⟩ := h
      obtain ⟨hs106, h⟩ := h
      refine t_upd true 5 0 [.empty, .empty, .empty, .empty, .empty] (.agg [q11, q12, q13, q14, q15]) [q11, q12, q13, q14, q15] [q11, q12, q13, q14, q15] H93 (by kernel_rfl) rfl (all_c hs102.2 (all_c hs103.2 (all_c hs104.2 (all_c hs105.2 (all_c hs106.2 all_n))))) ⟨rfl, Nat.le_of_ble_eq_true (by kernel_rfl), rfl⟩ ?_
      refine t_done [(.agg [q0, q1, q2, q3, q4]), (.int .i64 window5), (.agg [q11, q12, q13, q14, q15]), (.agg [q11, q12, q13, q14, q15]), (.bool false), d17, d18, (.int .i64 i90), (.bool ((decide (i90 < (len94 : Int))) && (decide (i90 < window5)))), d92] H93 (by kernel_rfl) ?_
      refine then_norm ?_
      refine w_ret ?_
      exact body_ret (vs := [(.agg [q11, q12, q13, q14, q15])]) _ (by kernel_rfl) rfl h

def rf_FQueue_Step (nFQueue_Index nFHas nFQueue_insert nFQueue_settled nFQueue_cut : Nat) : RFunc := ⟨3, 19, [.part 3 (some 5), .var 4],
 ((.seq (.ops [⟨.tomb 1 (.var 0), none, (some 7), true⟩, ⟨.tomb 1 (.var 1), none, (some 5), true⟩, ⟨.tomb 1 (.k (.agg [.empty, .empty, .empty, .empty, .empty])), none, (some 3), true⟩, ⟨.move (.k (.int .i64 0)), none, (some 4), true⟩])
 ((.seq ((.seq (.ops [o1 (.field 0 none (.var 5)), o1 (.field 0 none (.var 5)), o1 (.bin .lss .no (.loc 1) (.k (.int .i64 1))), o1 (.move (.loc 2)), o1 (.field 0 none (.var 5)), o1 (.field 0 none (.var 5)), o1 (.bin .gtr .no (.loc 5) (.k (.int .i64 4))), ⟨.pick (.loc 3) (.k (.bool true)) (.loc 6), none, (some 6), true⟩])
 (.cond (.var 6) ((.seq (.ops [o1 (.field 0 (some 5) (.var 7)), ⟨.upd 5 0 (.var 3) (.loc 0), none, (some 3), true⟩, ⟨.move (.k (.int .i64 4)), none, (some 4), true⟩])
 (.ret))) (.skip))))
 ((.seq ((.seq (.ops [o1 (.field 0 none (.var 5)), o1 (.field 1 none (.var 5)), o1 (.bin .lss .no (.loc 1) (.k (.int .i64 1))), o1 (.move (.loc 2)), o1 (.field 0 none (.var 5)), o1 (.field 1 none (.var 5)), o1 (.bin .gtr .no (.loc 5) (.k (.int .i64 1000000000))), o1 (.pick (.loc 3) (.k (.bool true)) (.loc 6)), o1 (.move (.loc 7)), o1 (.field 0 none (.var 5)), o1 (.field 2 none (.var 5)), o1 (.bin .lss .no (.loc 10) (.k (.int .i64 0))), o1 (.pick (.loc 8) (.k (.bool true)) (.loc 11)), o1 (.move (.loc 12)), o1 (.field 0 none (.var 5)), o1 (.field 2 none (.var 5)), o1 (.bin .gtr .no (.loc 15) (.k (.int .i64 3))), ⟨.pick (.loc 13) (.k (.bool true)) (.loc 16), none, (some 8), true⟩])
 (.cond (.var 8) ((.seq (.ops [o1 (.field 0 (some 5) (.var 7)), ⟨.upd 5 0 (.var 3) (.loc 0), none, (some 3), true⟩, ⟨.move (.k (.int .i64 3)), none, (some 4), true⟩])
 (.ret))) (.skip))))
 ((.seq ((.seq (.ops [o1 (.field 0 none (.var 5)), o1 (.field 0 none (.var 5)), o1 (.bin .gtr .no (.loc 1) (.k (.int .i64 1))), o1 (.move (.loc 2)), o1 (.field 0 none (.var 5)), o1 (.field 2 none (.var 5)), o1 (.bin .gtr .no (.loc 5) (.k (.int .i64 0))), ⟨.pick (.loc 3) (.loc 6) (.k (.bool false)), none, (some 9), true⟩])
 (.cond (.var 9) ((.seq (.ops [o1 (.field 0 (some 5) (.var 7)), ⟨.upd 5 0 (.var 3) (.loc 0), none, (some 3), true⟩, ⟨.move (.k (.int .i64 5)), none, (some 4), true⟩])
 (.ret))) (.skip))))
 ((.seq (.ops [o1 (.field 0 (some 5) (.var 7)), o1 (.field 0 none (.var 5)), o1 (.field 1 none (.var 5)), o1 (.callS nFQueue_Index [(.loc 0), (.loc 2)]), ⟨.move (.loc 3), none, (some 11), true⟩])
 ((.seq ((.seq (.ops [o1 (.field 0 none (.var 5)), o1 (.field 0 none (.var 5)), ⟨.bin .eql .no (.loc 1) (.k (.int .i64 1)), none, (some 10), true⟩])
 (.cond (.var 10) ((.seq ((.seq (.ops [o1 (.move (.var 11)), o1 (.bin .geq .no (.loc 0) (.k (.int .i64 0))), o1 (.move (.loc 1)), o1 (.field 0 none (.var 7)), o1 (.field 3 none (.var 7)), o1 (.field 0 none (.var 5)), o1 (.field 1 none (.var 5)), ⟨.callS nFHas [(.loc 4), (.loc 6)], (some (2, false)), none, true⟩, o1 (.pick (.loc 2) (.k (.bool true)) (.loc 7)), o1 (.move (.loc 8)), o1 (.field 0 none (.var 7)), o1 (.field 4 none (.var 7)), o1 (.field 0 none (.var 5)), o1 (.field 1 none (.var 5)), ⟨.callS nFHas [(.loc 11), (.loc 13)], (some (9, false)), none, true⟩, ⟨.pick (.loc 9) (.k (.bool true)) (.loc 14), none, (some 12), true⟩])
 (.cond (.var 12) ((.seq (.ops [o1 (.field 0 (some 5) (.var 7)), ⟨.upd 5 0 (.var 3) (.loc 0), none, (some 3), true⟩, ⟨.move (.k (.int .i64 7)), none, (some 4), true⟩])
 (.ret))) (.skip))))
 ((.seq ((.seq (.ops [o1 (.field 0 none (.var 7)), o1 (.field 0 none (.var 7)), o1 (.len (.loc 1)), ⟨.bin .geq .no (.loc 2) (.k (.int .i64 10)), none, (some 13), true⟩])
 (.cond (.var 13) ((.seq (.ops [o1 (.field 0 (some 5) (.var 7)), ⟨.upd 5 0 (.var 3) (.loc 0), none, (some 3), true⟩, ⟨.move (.k (.int .i64 14)), none, (some 4), true⟩])
 (.ret))) (.skip))))
 ((.seq (.ops [o1 (.field 0 (some 5) (.var 7)), o1 (.field 0 none (.var 5)), o1 (.field 1 none (.var 5)), o1 (.field 0 none (.var 5)), o1 (.field 2 none (.var 5)), o1 (.callS nFQueue_insert [(.loc 0), (.loc 2), (.loc 4)]), o1 (.move (.var 2)), o1 (.callS nFQueue_settled [(.loc 5), (.loc 6)]), ⟨.upd 5 0 (.var 3) (.loc 7), none, (some 3), true⟩, ⟨.move (.k (.int .i64 0)), none, (some 4), true⟩])
 (.ret))))))) (.skip))))
 ((.seq ((.seq (.ops [o1 (.move (.var 11)), ⟨.bin .lss .no (.loc 0) (.k (.int .i64 0)), none, (some 14), true⟩])
 (.cond (.var 14) ((.seq (.ops [o1 (.field 0 (some 5) (.var 7)), ⟨.upd 5 0 (.var 3) (.loc 0), none, (some 3), true⟩, ⟨.move (.k (.int .i64 6)), none, (some 4), true⟩])
 (.ret))) (.skip))))
 ((.seq ((.seq (.ops [o1 (.field 0 none (.var 5)), o1 (.field 0 none (.var 5)), ⟨.bin .eql .no (.loc 1) (.k (.int .i64 2)), none, (some 15), true⟩])
 (.cond (.var 15) ((.seq (.ops [o1 (.field 0 (some 5) (.var 7)), o1 (.move (.var 11)), o1 (.callS nFQueue_cut [(.loc 0), (.loc 1), (.k (.bool true))]), o1 (.move (.var 2)), o1 (.callS nFQueue_settled [(.loc 2), (.loc 3)]), ⟨.upd 5 0 (.var 3) (.loc 4), none, (some 3), true⟩, ⟨.move (.k (.int .i64 0)), none, (some 4), true⟩])
 (.ret))) (.skip))))
 ((.seq ((.seq (.ops [o1 (.field 0 none (.var 7)), o1 (.field 2 none (.var 7)), o1 (.move (.var 11)), o1 (.indexAddr 1 (.loc 1) (.loc 2)), o1 (.load none (.loc 3)), ⟨.bin .neq .no (.loc 4) (.k (.int .i64 1)), none, (some 16), true⟩])
 (.cond (.var 16) ((.seq (.ops [o1 (.field 0 (some 5) (.var 7)), ⟨.upd 5 0 (.var 3) (.loc 0), none, (some 3), true⟩, ⟨.move (.k (.int .i64 11)), none, (some 4), true⟩])
 (.ret))) (.skip))))
 ((.seq (.ops [o1 (.field 0 (some 5) (.var 7)), o1 (.callS nFQueue_cut [(.loc 0), (.k (.int .i64 (-1))), (.k (.bool false))]), ⟨.tomb 1 (.k (.agg [.empty, .empty, .empty, .empty, .empty])), none, (some 17), true⟩, ⟨.upd 5 0 (.loc 2) (.loc 1), none, (some 17), true⟩])
 ((.seq (.ops [o1 (.field 0 none (.var 17)), o1 (.field 2 none (.var 17)), o1 (.move (.var 11)), o1 (.indexAddr 1 (.loc 1) (.loc 2)), o1 (.store 1 (.loc 3) (.k (.int .i64 2)) [])])
 ((.seq ((.seq (.ops [o1 (.field 0 none (.var 5)), o1 (.field 0 none (.var 5)), ⟨.bin .eql .no (.loc 1) (.k (.int .i64 4)), none, (some 18), true⟩])
 (.cond (.var 18) (.ops [o1 (.field 0 none (.var 17)), o1 (.field 2 none (.var 17)), o1 (.move (.var 11)), o1 (.indexAddr 1 (.loc 1) (.loc 2)), o1 (.store 1 (.loc 3) (.k (.int .i64 3)) [])]) (.skip))))
 ((.seq (.ops [o1 (.field 0 (some 5) (.var 17)), o1 (.move (.var 2)), o1 (.callS nFQueue_settled [(.loc 0), (.loc 1)]), ⟨.upd 5 0 (.var 3) (.loc 2), none, (some 3), true⟩, ⟨.move (.k (.int .i64 0)), none, (some 4), true⟩])
 (.ret))))))))))))))))))))))))))), none⟩
theorem v_FQueue_Step {F : Nat → Option RFunc} {me nFQueue_Index nFHas nFQueue_insert nFQueue_settled nFQueue_cut : Nat} (hF : F me = some (rf_FQueue_Step nFQueue_Index nFHas nFQueue_insert nFQueue_settled nFQueue_cut)) {fl : Nat} {H : Heap} {Q : AV → Heap → Prop} (q0 : AV) (q1 : AV) (q2 : AV) (q3 : AV) (q4 : AV) (e5 : Int) (e6 : Int) (e7 : Int) (window8 : Int)
  (h : ∀ (H9 : Heap), Dead1 H 1 H9 → ∀ (H10 : Heap), Dead1 H9 1 H10 → ∀ (H11 : Heap), Dead1 H10 1 H11 → ((((e5 < 1) ∨ (e5 > 4))) → Scal q0 ∧ Scal q1 ∧ Scal q2 ∧ Scal q3 ∧ Scal q4 ∧ Q (.tuple [(.agg [q0, q1, q2, q3, q4]), (.int .i64 4)]) H11) ∧ (¬(((e5 < 1) ∨ (e5 > 4))) → ((((((((e6 < 1) ∨ (e6 > 1000000000))) ∨ (e7 < 0))) ∨ (e7 > 3))) → Scal q0 ∧ Scal q1 ∧ Scal q2 ∧ Scal q3 ∧ Scal q4 ∧ Q (.tuple [(.agg [q0, q1, q2, q3, q4]), (.int .i64 3)]) H11) ∧ (¬(((((((e6 < 1) ∨ (e6 > 1000000000))) ∨ (e7 < 0))) ∨ (e7 > 3))) → ((((e5 > 1) ∧ (e7 > 0))) → Scal q0 ∧ Scal q1 ∧ Scal q2 ∧ Scal q3 ∧ Scal q4 ∧ Q (.tuple [(.agg [q0, q1, q2, q3, q4]), (.int .i64 5)]) H11) ∧ (¬(((e5 > 1) ∧ (e7 > 0))) → Ret F fl nFQueue_Index [(.agg [q0, q1, q2, q3, q4]), (.int .i64 e6)] H11 (fun v29 H28 => ∃ (r27 : Int), v29 = (.int .i64 r27) ∧ ((e5 = 1) → ((r27 ≥ 0) → Scal q0 ∧ Scal q1 ∧ Scal q2 ∧ Scal q3 ∧ Scal q4 ∧ Q (.tuple [(.agg [q0, q1, q2, q3, q4]), (.int .i64 7)]) H28) ∧ (¬(r27 ≥ 0) → Ret F fl nFHas [q3, (.int .i64 e6)] H28 (fun v32 H31 => ∃ (r30 : Bool), v32 = (.bool r30) ∧ ((r30 = true) → Scal q0 ∧ Scal q1 ∧ Scal q2 ∧ Scal q3 ∧ Scal q4 ∧ Q (.tuple [(.agg [q0, q1, q2, q3, q4]), (.int .i64 7)]) H31) ∧ (¬(r30 = true) → Ret F fl nFHas [q4, (.int .i64 e6)] H31 (fun v35 H34 => ∃ (r33 : Bool), v35 = (.bool r33) ∧ ((r33 = true) → Scal q0 ∧ Scal q1 ∧ Scal q2 ∧ Scal q3 ∧ Scal q4 ∧ Q (.tuple [(.agg [q0, q1, q2, q3, q4]), (.int .i64 7)]) H34) ∧ (¬(r33 = true) → ∃ len41 : Nat, lenA q0 = some len41 ∧ (((len41 : Int) ≥ 10) → Scal q0 ∧ Scal q1 ∧ Scal q2 ∧ Scal q3 ∧ Scal q4 ∧ Q (.tuple [(.agg [q0, q1, q2, q3, q4]), (.int .i64 14)]) H34) ∧ (¬((len41 : Int) ≥ 10) → Ret F fl nFQueue_insert [(.agg [q0, q1, q2, q3, q4]), (.int .i64 e6), (.int .i64 e7)] H34 (fun v53 H52 => ∃ (r47 : AV) (r48 : AV) (r49 : AV) (r50 : AV) (r51 : AV), v53 = (.agg [r47, r48, r49, r50, r51]) ∧ Ret F fl nFQueue_settled [(.agg [r47, r48, r49, r50, r51]), (.int .i64 window8)] H52 (fun v60 H59 => ∃ (r54 : AV) (r55 : AV) (r56 : AV) (r57 : AV) (r58 : AV), v60 = (.agg [r54, r55, r56, r57, r58]) ∧ Scal r54 ∧ Scal r55 ∧ Scal r56 ∧ Scal r57 ∧ Scal r58 ∧ Q (.tuple [(.agg [r54, r55, r56, r57, r58]), (.int .i64 0)]) H59))))))))) ∧ (¬(e5 = 1) → ((r27 < 0) → Scal q0 ∧ Scal q1 ∧ Scal q2 ∧ Scal q3 ∧ Scal q4 ∧ Q (.tuple [(.agg [q0, q1, q2, q3, q4]), (.int .i64 6)]) H28) ∧ (¬(r27 < 0) → ((e5 = 2) → Ret F fl nFQueue_cut [(.agg [q0, q1, q2, q3, q4]), (.int .i64 r27), (.bool true)] H28 (fun v87 H86 => ∃ (r81 : AV) (r82 : AV) (r83 : AV) (r84 : AV) (r85 : AV), v87 = (.agg [r81, r82, r83, r84, r85]) ∧ Ret F fl nFQueue_settled [(.agg [r81, r82, r83, r84, r85]), (.int .i64 window8)] H86 (fun v94 H93 => ∃ (r88 : AV) (r89 : AV) (r90 : AV) (r91 : AV) (r92 : AV), v94 = (.agg [r88, r89, r90, r91, r92]) ∧ Scal r88 ∧ Scal r89 ∧ Scal r90 ∧ Scal r91 ∧ Scal r92 ∧ Q (.tuple [(.agg [r88, r89, r90, r91, r92]), (.int .i64 0)]) H93))) ∧ (¬(e5 = 2) → ∃ (e100 : Int), getA H28 1 none q2 r27 0 = some (.int .i64 e100) ∧ ((e100 ≠ 1) → Scal q0 ∧ Scal q1 ∧ Scal q2 ∧ Scal q3 ∧ Scal q4 ∧ Q (.tuple [(.agg [q0, q1, q2, q3, q4]), (.int .i64 11)]) H28) ∧ (¬(e100 ≠ 1) → Ret F fl nFQueue_cut [(.agg [q0, q1, q2, q3, q4]), (.int .i64 (-1)), (.bool false)] H28 (fun v113 H112 => ∃ (r107 : AV) (r108 : AV) (r109 : AV) (r110 : AV) (r111 : AV), v113 = (.agg [r107, r108, r109, r110, r111]) ∧ ∀ (H114 : Heap), Dead1 H112 1 H114 → Scal r107 ∧ Scal r108 ∧ Scal r109 ∧ Scal r110 ∧ Scal r111 ∧ ∃ b120 o121 : Nat, ptrA 1 r109 r27 = some (b120, o121) ∧ ∃ H122 : Heap, putA fl H114 b120 o121 1 (.int .i64 2) = some H122 ∧ ((e5 = 4) → ∃ b123 o124 : Nat, ptrA 1 r109 r27 = some (b123, o124) ∧ ∃ H125 : Heap, putA fl H122 b123 o124 1 (.int .i64 3) = some H125 ∧ Ret F fl nFQueue_settled [(.agg [r107, r108, r109, r110, r111]), (.int .i64 window8)] H125 (fun v132 H131 => ∃ (r126 : AV) (r127 : AV) (r128 : AV) (r129 : AV) (r130 : AV), v132 = (.agg [r126, r127, r128, r129, r130]) ∧ Scal r126 ∧ Scal r127 ∧ Scal r128 ∧ Scal r129 ∧ Scal r130 ∧ Q (.tuple [(.agg [r126, r127, r128, r129, r130]), (.int .i64 0)]) H131)) ∧ (¬(e5 = 4) → Ret F fl nFQueue_settled [(.agg [r107, r108, r109, r110, r111]), (.int .i64 window8)] H122 (fun v144 H143 => ∃ (r138 : AV) (r139 : AV) (r140 : AV) (r141 : AV) (r142 : AV), v144 = (.agg [r138, r139, r140, r141, r142]) ∧ Scal r138 ∧ Scal r139 ∧ Scal r140 ∧ Scal r141 ∧ Scal r142 ∧ Q (.tuple [(.agg [r138, r139, r140, r141, r142]), (.int .i64 0)]) H143)))))))))))) : Ret F fl me [(.agg [q0, q1, q2, q3, q4]), (.agg [(.int .i64 e5), (.int .i64 e6), (.int .i64 e7)]), (.int .i64 window8)] H Q := by
  refine ret_intro hF rfl ?_
  refine w_seq ?_
  refine w_run [1, 1, 1, 0] ?_
  obtain ⟨H9, hb⟩ : ∃ H', Dead1 H 1 H' := ⟨_, ⟨rfl⟩⟩
  replace h := h H9 hb
  refine t_tomb true 1 (.agg [q0, q1, q2, q3, q4]) [q0, q1, q2, q3, q4] H9 H (by kernel_rfl) rfl hb ?_
  obtain ⟨H10, hb⟩ : ∃ H', Dead1 H9 1 H' := ⟨_, ⟨rfl⟩⟩
  replace h := h H10 hb
  refine t_tomb true 1 (.agg [(.int .i64 e5), (.int .i64 e6), (.int .i64 e7)]) [(.int .i64 e5), (.int .i64 e6), (.int .i64 e7)] H10 H9 (by kernel_rfl) rfl hb ?_
  obtain ⟨H11, hb⟩ : ∃ H', Dead1 H10 1 H' := ⟨_, ⟨rfl⟩⟩
  replace h := h H11 hb
  refine t_tomb true 1 (.agg [.empty, .empty, .empty, .empty, .empty]) [.empty, .empty, .empty, .empty, .empty] H11 H10 (by kernel_rfl) rfl hb ?_
  refine t_done [(.agg [q0, q1, q2, q3, q4]), (.agg [(.int .i64 e5), (.int .i64 e6), (.int .i64 e7)]), (.int .i64 window8), (.agg [.empty, .empty, .empty, .empty, .empty]), (.int .i64 0), (.agg [(.int .i64 e5), (.int .i64 e6), (.int .i64 e7)]), .undef, (.agg [q0, q1, q2, q3, q4]), .undef, .undef, .undef, .undef, .undef, .undef, .undef, .undef, .undef, .undef, .undef] H11 (by kernel_rfl) ?_
  refine then_norm ?_
  refine w_seq ?_
  refine w_seq ?_
  refine w_run [0, 0, 0, 0, 0, 0, 0, 0] ?_
  refine t_done [(.agg [q0, q1, q2, q3, q4]), (.agg [(.int .i64 e5), (.int .i64 e6), (.int .i64 e7)]), (.int .i64 window8), (.agg [.empty, .empty, .empty, .empty, .empty]), (.int .i64 0), (.agg [(.int .i64 e5), (.int .i64 e6), (.int .i64 e7)]), (.bool ((decide (e5 < 1)) || (decide (e5 > 4)))), (.agg [q0, q1, q2, q3, q4]), .undef, .undef, .undef, .undef, .undef, .undef, .undef, .undef, .undef, .undef, .undef] H11 (by kernel_rfl) ?_
  refine then_norm ?_
  refine w_cond (t := ((decide (e5 < 1)) || (decide (e5 > 4)))) rfl (fun hc => ?_) (fun hc => ?_)
  · replace h := h.1 ((is_or is_dec is_dec).t hc)
    refine w_seq ?_
    refine w_run [0, 1, 0] ?_
    obtain ⟨hs12, h⟩ := h
    obtain ⟨hs13, h⟩ := h
    obtain ⟨hs14, h⟩ := h
    obtain ⟨hs15, h⟩ := h
    obtain ⟨hs16, h⟩ := h
    refine t_upd true 5 0 [.empty, .empty, .empty, .empty, .empty] (.agg [q0, q1, q2, q3, q4]) [q0, q1, q2, q3, q4] [q0, q1, q2, q3, q4] H11 (by kernel_rfl) rfl (all_c hs12.2 (all_c hs13.2 (all_c hs14.2 (all_c hs15.2 (all_c hs16.2 all_n))))) ⟨rfl, Nat.le_of_ble_eq_true (by kernel_rfl), rfl⟩ ?_
    refine t_done [(.agg [q0, q1, q2, q3, q4]), (.agg [(.int .i64 e5), (.int .i64 e6), (.int .i64 e7)]), (.int .i64 window8), (.agg [q0, q1, q2, q3, q4]), (.int .i64 4), (.agg [(.int .i64 e5), (.int .i64 e6), (.int .i64 e7)]), (.bool ((decide (e5 < 1)) || (decide (e5 > 4)))), (.agg [q0, q1, q2, q3, q4]), .undef, .undef, .undef, .undef, .undef, .undef, .undef, .undef, .undef, .undef, .undef] H11 (by kernel_rfl) ?_
    refine then_norm ?_
    refine w_ret ?_
    refine then_ret ?_
    exact body_ret (vs := [(.agg [q0, q1, q2, q3, q4]), (.int .i64 4)]) _ (by kernel_rfl) rfl h
  · replace h := h.2 ((is_or is_dec is_dec).f hc)
    refine w_skip ?_
    refine then_norm ?_
    refine w_seq ?_
    refine w_seq ?_
    refine w_run [0, 0, 0, 0, 0, 0, 0, 0, 0, 0, 0, 0, 0, 0, 0, 0, 0, 0] ?_
    refine t_done [(.agg [q0, q1, q2, q3, q4]), (.agg [(.int .i64 e5), (.int .i64 e6), (.int .i64 e7)]), (.int .i64 window8), (.agg [.empty, .empty, .empty, .empty, .empty]), (.int .i64 0), (.agg [(.int .i64 e5), (.int .i64 e6), (.int .i64 e7)]), (.bool ((decide (e5 < 1)) || (decide (e5 > 4)))), (.agg [q0, q1, q2, q3, q4]), (.bool ((((decide (e6 < 1)) || (decide (e6 > 1000000000))) || (decide (e7 < 0))) || (decide (e7 > 3)))), .undef, .undef, .undef, .undef, .undef, .undef, .undef, .undef, .undef, .undef] H11 (by kernel_rfl) ?_
    refine then_norm ?_
    refine w_cond (t := ((((decide (e6 < 1)) || (decide (e6 > 1000000000))) || (decide (e7 < 0))) || (decide (e7 > 3)))) rfl (fun hc => ?_) (fun hc => ?_)
    · replace h := h.1 ((is_or (is_or (is_or is_dec is_dec) is_dec) is_dec).t hc)
      refine w_seq ?_
      refine w_run [0, 1, 0] ?_
      obtain ⟨hs17, h⟩ := h
      obtain ⟨hs18, h⟩ := h
      obtain ⟨hs19, h⟩ := h
      obtain ⟨hs20, h⟩ := h
      obtain ⟨hs21, h⟩ := h
      refine t_upd true 5 0 [.empty, .empty, .empty, .empty, .empty] (.agg [q0, q1, q2, q3, q4]) [q0, q1, q2, q3, q4] [q0, q1, q2, q3, q4] H11 (by kernel_rfl) rfl (all_c hs17.2 (all_c hs18.2 (all_c hs19.2 (all_c hs20.2 (all_c hs21.2 all_n))))) ⟨rfl, Nat.le_of_ble_eq_true (by kernel_rfl), rfl⟩ ?_
      refine t_done [(.agg [q0, q1, q2, q3, q4]), (.agg [(.int .i64 e5), (.int .i64 e6), (.int .i64 e7)]), (.int .i64 window8), (.agg [q0, q1, q2, q3, q4]), (.int .i64 3), (.agg [(.int .i64 e5), (.int .i64 e6), (.int .i64 e7)]), (.bool ((decide (e5 < 1)) || (decide (e5 > 4)))), (.agg [q0, q1, q2, q3, q4]), (.bool ((((decide (e6 < 1)) || (decide (e6 > 1000000000))) || (decide (e7 < 0))) || (decide (e7 > 3)))), .undef, .undef, .undef, .undef, .undef, .undef, .undef, .undef, .undef, .undef] H11 (by kernel_rfl) ?_
      refine then_norm ?_
      refine w_ret ?_
      refine then_ret ?_
      exact body_ret (vs := [(.agg [q0, q1, q2, q3, q4]), (.int .i64 3)]) _ (by kernel_rfl) rfl h
    · replace h := h.2 ((is_or (is_or (is_or is_dec is_dec) is_dec) is_dec).f hc)
      refine w_skip ?_
      refine then_norm ?_
      refine w_seq ?_
      refine w_seq ?_
      refine w_run [0, 0, 0, 0, 0, 0, 0, 0] ?_
      refine t_done [(.agg [q0, q1, q2, q3, q4]), (.agg [(.int .i64 e5), (.int .i64 e6), (.int .i64 e7)]), (.int .i64 window8), (.agg [.empty, .empty, .empty, .empty, .empty]), (.int .i64 0), (.agg [(.int .i64 e5), (.int .i64 e6), (.int .i64 e7)]), (.bool ((decide (e5 < 1)) || (decide (e5 > 4)))), (.agg [q0, q1, q2, q3, q4]), (.bool ((((decide (e6 < 1)) || (decide (e6 > 1000000000))) || (decide (e7 < 0))) || (decide (e7 > 3)))), (.bool ((decide (e5 > 1)) && (decide (e7 > 0)))), .undef, .undef, .undef, .undef, .undef, .undef, .undef, .undef, .undef] H11 (by kernel_rfl) ?_
      refine then_norm ?_
      refine w_cond (t := ((decide (e5 > 1)) && (decide (e7 > 0)))) rfl (fun hc => ?_) (fun hc => ?_)
      · replace h := h.1 ((is_and is_dec is_dec).t hc)
        refine w_seq ?_
        refine w_run [0, 1, 0] ?_
        obtain ⟨hs22, h⟩ := h
        obtain ⟨hs23, h⟩ := h
        obtain ⟨hs24, h⟩ := h
        obtain ⟨hs25, h⟩ := h
        obtain ⟨hs26, h⟩ := h
        refine t_upd true 5 0 [.empty, .empty, .empty, .empty, .empty] (.agg [q0, q1, q2, q3, q4]) [q0, q1, q2, q3, q4] [q0, q1, q2, q3, q4] H11 (by kernel_rfl) rfl (all_c hs22.2 (all_c hs23.2 (all_c hs24.2 (all_c hs25.2 (all_c hs26.2 all_n))))) ⟨rfl, Nat.le_of_ble_eq_true (by kernel_rfl), rfl⟩ ?_
        refine t_done [(.agg [q0, q1, q2, q3, q4]), (.agg [(.int .i64 e5), (.int .i64 e6), (.int .i64 e7)]), (.int .i64 window8), (.agg [q0, q1, q2, q3, q4]), (.int .i64 5), (.agg [(.int .i64 e5), (.int .i64 e6), (.int .i64 e7)]), (.bool ((decide (e5 < 1)) || (decide (e5 > 4)))), (.agg [q0, q1, q2, q3, q4]), (.bool ((((decide (e6 < 1)) || (decide (e6 > 1000000000))) || (decide (e7 < 0))) || (decide (e7 > 3)))), (.bool ((decide (e5 > 1)) && (decide (e7 > 0)))), .undef, .undef, .undef, .undef, .undef, .undef, .undef, .undef, .undef] H11 (by kernel_rfl) ?_
        refine then_norm ?_
        refine w_ret ?_
        refine then_ret ?_
        exact body_ret (vs := [(.agg [q0, q1, q2, q3, q4]), (.int .i64 5)]) _ (by kernel_rfl) rfl h
      · replace h := h.2 ((is_and is_dec is_dec).f hc)
        refine w_skip ?_
        refine then_norm ?_
        refine w_seq ?_
        refine w_run [0, 0, 0, 1, 0] ?_
        refine t_call true nFQueue_Index [(.agg [q0, q1, q2, q3, q4]), (.int .i64 e6)] H11 (by kernel_rfl) h ?_
        clear h
        rintro _ H28 ⟨r27, rfl, h⟩
        refine t_done [(.agg [q0, q1, q2, q3, q4]), (.agg [(.int .i64 e5), (.int .i64 e6), (.int .i64 e7)]), (.int .i64 window8), (.agg [.empty, .empty, .empty, .empty, .empty]), (.int .i64 0), (.agg [(.int .i64 e5), (.int .i64 e6), (.int .i64 e7)]), (.bool ((decide (e5 < 1)) || (decide (e5 > 4)))), (.agg [q0, q1, q2, q3, q4]), (.bool ((((decide (e6 < 1)) || (decide (e6 > 1000000000))) || (decide (e7 < 0))) || (decide (e7 > 3)))), (.bool ((decide (e5 > 1)) && (decide (e7 > 0)))), .undef, (.int .i64 r27), .undef, .undef, .undef, .undef, .undef, .undef, .undef] H28 (by kernel_rfl) ?_
        refine then_norm ?_
        refine w_seq ?_
        refine w_seq ?_
        refine w_run [0, 0, 0] ?_
        refine t_done [(.agg [q0, q1, q2, q3, q4]), (.agg [(.int .i64 e5), (.int .i64 e6), (.int .i64 e7)]), (.int .i64 window8), (.agg [.empty, .empty, .empty, .empty, .empty]), (.int .i64 0), (.agg [(.int .i64 e5), (.int .i64 e6), (.int .i64 e7)]), (.bool ((decide (e5 < 1)) || (decide (e5 > 4)))), (.agg [q0, q1, q2, q3, q4]), (.bool ((((decide (e6 < 1)) || (decide (e6 > 1000000000))) || (decide (e7 < 0))) || (decide (e7 > 3)))), (.bool ((decide (e5 > 1)) && (decide (e7 > 0)))), (.bool ((e5) == 1)), (.int .i64 r27), .undef, .undef, .undef, .undef, .undef, .undef, .undef] H28 (by kernel_rfl) ?_
        refine then_norm ?_
        refine w_cond (t := ((e5) == 1)) rfl (fun hc => ?_) (fun hc => ?_)
        · replace h := h.1 (is_eq.t hc)
          refine w_seq ?_
          refine w_seq ?_
          refine w_run [0, 0, 0, 0, 0, 0, 0, 3, 0, 0, 0, 0, 0, 0, 3, 0] ?_
          refine t_gd (decide (r27 ≥ 0)) false (by kernel_rfl) (fun hc => ?_) (fun hc => ?_)
          · replace h := h.2 (is_dec.f hc)
            refine t_call true nFHas [q3, (.int .i64 e6)] H28 (by kernel_rfl) h ?_
            clear h
            rintro _ H31 ⟨r30, rfl, h⟩
            refine t_gd r30 false (by kernel_rfl) (fun hc => ?_) (fun hc => ?_)
            · replace h := h.2 (is_raw.f hc)
              refine t_call true nFHas [q4, (.int .i64 e6)] H31 (by kernel_rfl) h ?_
              clear h
              rintro _ H34 ⟨r33, rfl, h⟩
              refine t_done [(.agg [q0, q1, q2, q3, q4]), (.agg [(.int .i64 e5), (.int .i64 e6), (.int .i64 e7)]), (.int .i64 window8), (.agg [.empty, .empty, .empty, .empty, .empty]), (.int .i64 0), (.agg [(.int .i64 e5), (.int .i64 e6), (.int .i64 e7)]), (.bool ((decide (e5 < 1)) || (decide (e5 > 4)))), (.agg [q0, q1, q2, q3, q4]), (.bool ((((decide (e6 < 1)) || (decide (e6 > 1000000000))) || (decide (e7 < 0))) || (decide (e7 > 3)))), (.bool ((decide (e5 > 1)) && (decide (e7 > 0)))), (.bool ((e5) == 1)), (.int .i64 r27), (.bool r33), .undef, .undef, .undef, .undef, .undef, .undef] H34 (by kernel_rfl) ?_
              refine then_norm ?_
              refine w_cond (t := r33) rfl (fun hc => ?_) (fun hc => ?_)
              · replace h := h.1 (is_raw.t hc)
                refine w_seq ?_
                refine w_run [0, 1, 0] ?_
                obtain ⟨hs36, h⟩ := h
                obtain ⟨hs37, h⟩ := h
                obtain ⟨hs38, h⟩ := h
                obtain ⟨hs39, h⟩ := h
                obtain ⟨hs40, h⟩ := h
                refine t_upd true 5 0 [.empty, .empty, .empty, .empty, .empty] (.agg [q0, q1, q2, q3, q4]) [q0, q1, q2, q3, q4] [q0, q1, q2, q3, q4] H34 (by kernel_rfl) rfl (all_c hs36.2 (all_c hs37.2 (all_c hs38.2 (all_c hs39.2 (all_c hs40.2 all_n))))) ⟨rfl, Nat.le_of_ble_eq_true (by kernel_rfl), rfl⟩ ?_
                refine t_done [(.agg [q0, q1, q2, q3, q4]), (.agg [(.int .i64 e5), (.int .i64 e6), (.int .i64 e7)]), (.int .i64 window8), (.agg [q0, q1, q2, q3, q4]), (.int .i64 7), (.agg [(.int .i64 e5), (.int .i64 e6), (.int .i64 e7)]), (.bool ((decide (e5 < 1)) || (decide (e5 > 4)))), (.agg [q0, q1, q2, q3, q4]), (.bool ((((decide (e6 < 1)) || (decide (e6 > 1000000000))) || (decide (e7 < 0))) || (decide (e7 > 3)))), (.bool ((decide (e5 > 1)) && (decide (e7 > 0)))), (.bool ((e5) == 1)), (.int .i64 r27), (.bool r33), .undef, .undef, .undef, .undef, .undef, .undef] H34 (by kernel_rfl) ?_
                refine then_norm ?_
                refine w_ret ?_
                refine then_ret ?_
                refine then_ret ?_
                exact body_ret (vs := [(.agg [q0, q1, q2, q3, q4]), (.int .i64 7)]) _ (by kernel_rfl) rfl h
              · replace h := h.2 (is_raw.f hc)
                refine w_skip ?_
                refine then_norm ?_
                refine w_seq ?_
                refine w_seq ?_
                refine w_run [0, 0, 1, 0] ?_
                obtain ⟨len41, hl, h⟩ := h
                refine t_len true q0 len41 H34 (by kernel_rfl) hl ?_
                refine t_done [(.agg [q0, q1, q2, q3, q4]), (.agg [(.int .i64 e5), (.int .i64 e6), (.int .i64 e7)]), (.int .i64 window8), (.agg [.empty, .empty, .empty, .empty, .empty]), (.int .i64 0), (.agg [(.int .i64 e5), (.int .i64 e6), (.int .i64 e7)]), (.bool ((decide (e5 < 1)) || (decide (e5 > 4)))), (.agg [q0, q1, q2, q3, q4]), (.bool ((((decide (e6 < 1)) || (decide (e6 > 1000000000))) || (decide (e7 < 0))) || (decide (e7 > 3)))), (.bool ((decide (e5 > 1)) && (decide (e7 > 0)))), (.bool ((e5) == 1)), (.int .i64 r27), (.bool r33), (.bool (decide ((len41 : Int) ≥ 10))), .undef, .undef, .undef, .undef, .undef] H34 (by kernel_rfl) ?_
                refine then_norm ?_
                refine w_cond (t := (decide ((len41 : Int) ≥ 10))) rfl (fun hc => ?_) (fun hc => ?_)
                · replace h := h.1 (is_dec.t hc)
                  refine w_seq ?_
                  refine w_run [0, 1, 0] ?_
                  obtain ⟨hs42, h⟩ := h
                  obtain ⟨hs43, h⟩ := h
                  obtain ⟨hs44, h⟩ := h
                  obtain ⟨hs45, h⟩ := h
                  obtain ⟨hs46, h⟩ := h
                  refine t_upd true 5 0 [.empty, .empty, .empty, .empty, .empty] (.agg [q0, q1, q2, q3, q4]) [q0, q1, q2, q3, q4] [q0, q1, q2, q3, q4] H34 (by kernel_rfl) rfl (all_c hs42.2 (all_c hs43.2 (all_c hs44.2 (all_c hs45.2 (all_c hs46.2 all_n))))) ⟨rfl, Nat.le_of_ble_eq_true (by kernel_rfl), rfl⟩ ?_
                  refine t_done [(.agg [q0, q1, q2, q3, q4]), (.agg [(.int .i64 e5), (.int .i64 e6), (.int .i64 e7)]), (.int .i64 window8), (.agg [q0, q1, q2, q3, q4]), (.int .i64 14), (.agg [(.int .i64 e5), (.int .i64 e6), (.int .i64 e7)]), (.bool ((decide (e5 < 1)) || (decide (e5 > 4)))), (.agg [q0, q1, q2, q3, q4]), (.bool ((((decide (e6 < 1)) || (decide (e6 > 1000000000))) || (decide (e7 < 0))) || (decide (e7 > 3)))), (.bool ((decide (e5 > 1)) && (decide (e7 > 0)))), (.bool ((e5) == 1)), (.int .i64 r27), (.bool r33), (.bool (decide ((len41 : Int) ≥ 10))), .undef, .undef, .undef, .undef, .undef] H34 (by kernel_rfl) ?_
                  refine then_norm ?_
                  refine w_ret ?_
                  refine then_ret ?_
                  refine then_ret ?_
                  exact body_ret (vs := [(.agg [q0, q1, q2, q3, q4]), (.int .i64 14)]) _ (by kernel_rfl) rfl h
                · replace h := h.2 (is_dec.f hc)
                  refine w_skip ?_
                  refine then_norm ?_
                  refine w_seq ?_
                  refine w_run [0, 0, 0, 0, 0, 1, 0, 1, 1, 0] ?_
                  refine t_call true nFQueue_insert [(.agg [q0, q1, q2, q3, q4]), (.int .i64 e6), (.int .i64 e7)] H34 (by kernel_rfl) h ?_
                  clear h
                  rintro _ H52 ⟨r47, r48, r49, r50, r51, rfl, h⟩
                  refine t_call true nFQueue_settled [(.agg [r47, r48, r49, r50, r51]), (.int .i64 window8)] H52 (by kernel_rfl) h ?_
                  clear h
                  rintro _ H59 ⟨r54, r55, r56, r57, r58, rfl, h⟩
                  obtain ⟨hs61, h⟩ := h
                  obtain ⟨hs62, h⟩ := h
                  obtain ⟨hs63, h⟩ := h
                  obtain ⟨hs64, h⟩ := h
                  obtain ⟨hs65, h⟩ := h
                  refine t_upd true 5 0 [.empty, .empty, .empty, .empty, .empty] (.agg [r54, r55, r56, r57, r58]) [r54, r55, r56, r57, r58] [r54, r55, r56, r57, r58] H59 (by kernel_rfl) rfl (all_c hs61.2 (all_c hs62.2 (all_c hs63.2 (all_c hs64.2 (all_c hs65.2 all_n))))) ⟨rfl, Nat.le_of_ble_eq_true (by kernel_rfl), rfl⟩ ?_
                  refine t_done [(.agg [q0, q1, q2, q3, q4]), (.agg [(.int .i64 e5), (.int .i64 e6), (.int .i64 e7)]), (.int .i64 window8), (.agg [r54, r55, r56, r57, r58]), (.int .i64 0), (.agg [(.int .i64 e5), (.int .i64 e6), (.int .i64 e7)]), (.bool ((decide (e5 < 1)) || (decide (e5 > 4)))), (.agg [q0, q1, q2, q3, q4]), (.bool ((((decide (e6 < 1)) || (decide (e6 > 1000000000))) || (decide (e7 < 0))) || (decide (e7 > 3)))), (.bool ((decide (e5 > 1)) && (decide (e7 > 0)))), (.bool ((e5) == 1)), (.int .i64 r27), (.bool r33), (.bool (decide ((len41 : Int) ≥ 10))), .undef, .undef, .undef, .undef, .undef] H59 (by kernel_rfl) ?_
                  refine then_norm ?_
                  refine w_ret ?_
                  refine then_ret ?_
                  exact body_ret (vs := [(.agg [r54, r55, r56, r57, r58]), (.int .i64 0)]) _ (by kernel_rfl) rfl h
            · replace h := h.1 (is_raw.t hc)
              refine t_done [(.agg [q0, q1, q2, q3, q4]), (.agg [(.int .i64 e5), (.int .i64 e6), (.int .i64 e7)]), (.int .i64 window8), (.agg [.empty, .empty, .empty, .empty, .empty]), (.int .i64 0), (.agg [(.int .i64 e5), (.int .i64 e6), (.int .i64 e7)]), (.bool ((decide (e5 < 1)) || (decide (e5 > 4)))), (.agg [q0, q1, q2, q3, q4]), (.bool ((((decide (e6 < 1)) || (decide (e6 > 1000000000))) || (decide (e7 < 0))) || (decide (e7 > 3)))), (.bool ((decide (e5 > 1)) && (decide (e7 > 0)))), (.bool ((e5) == 1)), (.int .i64 r27), (.bool true), .undef, .undef, .undef, .undef, .undef, .undef] H31 (by kernel_rfl) ?_
              refine then_norm ?_
              refine w_cond (t := true) rfl (fun _ => ?_) (fun hc => by cases hc)
              refine w_seq ?_
              refine w_run [0, 1, 0] ?_
              obtain ⟨hs66, h⟩ := h
              obtain ⟨hs67, h⟩ := h
              obtain ⟨hs68, h⟩ := h
              obtain ⟨hs69, h⟩ := h
              obtain ⟨hs70, h⟩ := h
              refine t_upd true 5 0 [.empty, .empty, .empty, .empty, .empty] (.agg [q0, q1, q2, q3, q4]) [q0, q1, q2, q3, q4] [q0, q1, q2, q3, q4] H31 (by kernel_rfl) rfl (all_c hs66.2 (all_c hs67.2 (all_c hs68.2 (all_c hs69.2 (all_c hs70.2 all_n))))) ⟨rfl, Nat.le_of_ble_eq_true (by kernel_rfl), rfl⟩ ?_
              refine t_done [(.agg [q0, q1, q2, q3, q4]), (.agg [(.int .i64 e5), (.int .i64 e6), (.int .i64 e7)]), (.int .i64 window8), (.agg [q0, q1, q2, q3, q4]), (.int .i64 7), (.agg [(.int .i64 e5), (.int .i64 e6), (.int .i64 e7)]), (.bool ((decide (e5 < 1)) || (decide (e5 > 4)))), (.agg [q0, q1, q2, q3, q4]), (.bool ((((decide (e6 < 1)) || (decide (e6 > 1000000000))) || (decide (e7 < 0))) || (decide (e7 > 3)))), (.bool ((decide (e5 > 1)) && (decide (e7 > 0)))), (.bool ((e5) == 1)), (.int .i64 r27), (.bool true), .undef, .undef, .undef, .undef, .undef, .undef] H31 (by kernel_rfl) ?_
              refine then_norm ?_
              refine w_ret ?_
              refine then_ret ?_
              refine then_ret ?_
              exact body_ret (vs := [(.agg [q0, q1, q2, q3, q4]), (.int .i64 7)]) _ (by kernel_rfl) rfl h
          · replace h := h.1 (is_dec.t hc)
            refine t_gd true false (by kernel_rfl) (fun hn => by cases hn) (fun _ => ?_)
            refine t_done [(.agg [q0, q1, q2, q3, q4]), (.agg [(.int .i64 e5), (.int .i64 e6), (.int .i64 e7)]), (.int .i64 window8), (.agg [.empty, .empty, .empty, .empty, .empty]), (.int .i64 0), (.agg [(.int .i64 e5), (.int .i64 e6), (.int .i64 e7)]), (.bool ((decide (e5 < 1)) || (decide (e5 > 4)))), (.agg [q0, q1, q2, q3, q4]), (.bool ((((decide (e6 < 1)) || (decide (e6 > 1000000000))) || (decide (e7 < 0))) || (decide (e7 > 3)))), (.bool ((decide (e5 > 1)) && (decide (e7 > 0)))), (.bool ((e5) == 1)), (.int .i64 r27), (.bool true), .undef, .undef, .undef, .undef, .undef, .undef] H28 (by kernel_rfl) ?_
            refine then_norm ?_
            refine w_cond (t := true) rfl (fun _ => ?_) (fun hc => by cases hc)
            refine w_seq ?_
            refine w_run [0, 1, 0] ?_
            obtain ⟨hs71, h⟩ := h
            obtain ⟨hs72, h⟩ := h
            obtain ⟨hs73, h⟩ := h
            obtain ⟨hs74, h⟩ := h
            obtain ⟨hs75, h⟩ := h
            refine t_upd true 5 0 [.empty, .empty, .empty, .empty, .empty] (.agg [q0, q1, q2, q3, q4]) [q0, q1, q2, q3, q4] [q0, q1, q2, q3, q4] H28 (by kernel_rfl) rfl (all_c hs71.2 (all_c hs72.2 (all_c hs73.2 (all_c hs74.2 (all_c hs75.2 all_n))))) ⟨rfl, Nat.le_of_ble_eq_true (by kernel_rfl), rfl⟩ ?_
            refine t_done [(.agg [q0, q1, q2, q3, q4]), (.agg [(.int .i64 e5), (.int .i64 e6), (.int .i64 e7)]), (.int .i64 window8), (.agg [q0, q1, q2, q3, q4]), (.int .i64 7), (.agg [(.int .i64 e5), (.int .i64 e6), (.int .i64 e7)]), (.bool ((decide (e5 < 1)) || (decide (e5 > 4)))), (.agg [q0, q1, q2, q3, q4]), (.bool ((((decide (e6 < 1)) || (decide (e6 > 1000000000))) || (decide (e7 < 0))) || (decide (e7 > 3)))), (.bool ((decide (e5 > 1)) && (decide (e7 > 0)))), (.bool ((e5) == 1)), (.int .i64 r27), (.bool true), .undef, .undef, .undef, .undef, .undef, .undef] H28 (by kernel_rfl) ?_
            refine then_norm ?_
            refine w_ret ?_
            refine then_ret ?_
            refine then_ret ?_
            exact body_ret (vs := [(.agg [q0, q1, q2, q3, q4]), (.int .i64 7)]) _ (by kernel_rfl) rfl h
        · replace h := h.2 (is_eq.f hc)
          refine w_skip ?_
          refine then_norm ?_
          refine w_seq ?_
          refine w_seq ?_
          refine w_run [0, 0] ?_
          refine t_done [(.agg [q0, q1, q2, q3, q4]), (.agg [(.int .i64 e5), (.int .i64 e6), (.int .i64 e7)]), (.int .i64 window8), (.agg [.empty, .empty, .empty, .empty, .empty]), (.int .i64 0), (.agg [(.int .i64 e5), (.int .i64 e6), (.int .i64 e7)]), (.bool ((decide (e5 < 1)) || (decide (e5 > 4)))), (.agg [q0, q1, q2, q3, q4]), (.bool ((((decide (e6 < 1)) || (decide (e6 > 1000000000))) || (decide (e7 < 0))) || (decide (e7 > 3)))), (.bool ((decide (e5 > 1)) && (decide (e7 > 0)))), (.bool ((e5) == 1)), (.int .i64 r27), .undef, .undef, (.bool (decide (r27 < 0))), .undef, .undef, .undef, .undef] H28 (by kernel_rfl) ?_
          refine then_norm ?_
          refine w_cond (t := (decide (r27 < 0))) rfl (fun hc => ?_) (fun hc => ?_)
          · replace h := h.1 (is_dec.t hc)
            refine w_seq ?_
            refine w_run [0, 1, 0] ?_
            obtain ⟨hs76, h⟩ := h
            obtain ⟨hs77, h⟩ := h
            obtain ⟨hs78, h⟩ := h
            obtain ⟨hs79, h⟩ := h
            obtain ⟨hs80, h⟩ := h
            refine t_upd true 5 0 [.empty, .empty, .empty, .empty, .empty] (.agg [q0, q1, q2, q3, q4]) [q0, q1, q2, q3, q4] [q0, q1, q2, q3, q4] H28 (by kernel_rfl) rfl (all_c hs76.2 (all_c hs77.2 (all_c hs78.2 (all_c hs79.2 (all_c hs80.2 all_n))))) ⟨rfl, Nat.le_of_ble_eq_true (by kernel_rfl), rfl⟩ ?_
            refine t_done [(.agg [q0, q1, q2, q3, q4]), (.agg [(.int .i64 e5), (.int .i64 e6), (.int .i64 e7)]), (.int .i64 window8), (.agg [q0, q1, q2, q3, q4]), (.int .i64 6), (.agg [(.int .i64 e5), (.int .i64 e6), (.int .i64 e7)]), (.bool ((decide (e5 < 1)) || (decide (e5 > 4)))), (.agg [q0, q1, q2, q3, q4]), (.bool ((((decide (e6 < 1)) || (decide (e6 > 1000000000))) || (decide (e7 < 0))) || (decide (e7 > 3)))), (.bool ((decide (e5 > 1)) && (decide (e7 > 0)))), (.bool ((e5) == 1)), (.int .i64 r27), .undef, .undef, (.bool (decide (r27 < 0))), .undef, .undef, .undef, .undef] H28 (by kernel_rfl) ?_
            refine then_norm ?_
            refine w_ret ?_
            refine then_ret ?_
            exact body_ret (vs := [(.agg [q0, q1, q2, q3, q4]), (.int .i64 6)]) _ (by kernel_rfl) rfl h
          · replace h := h.2 (is_dec.f hc)
            refine w_skip ?_
            refine then_norm ?_
            refine w_seq ?_
            refine w_seq ?_
            refine w_run [0, 0, 0] ?_
            refine t_done [(.agg [q0, q1, q2, q3, q4]), (.agg [(.int .i64 e5), (.int .i64 e6), (.int .i64 e7)]), (.int .i64 window8), (.agg [.empty, .empty, .empty, .empty, .empty]), (.int .i64 0), (.agg [(.int .i64 e5), (.int .i64 e6), (.int .i64 e7)]), (.bool ((decide (e5 < 1)) || (decide (e5 > 4)))), (.agg [q0, q1, q2, q3, q4]), (.bool ((((decide (e6 < 1)) || (decide (e6 > 1000000000))) || (decide (e7 < 0))) || (decide (e7 > 3)))), (.bool ((decide (e5 > 1)) && (decide (e7 > 0)))), (.bool ((e5) == 1)), (.int .i64 r27), .undef, .undef, (.bool (decide (r27 < 0))), (.bool ((e5) == 2)), .undef, .undef, .undef] H28 (by kernel_rfl) ?_
            refine then_norm ?_
            refine w_cond (t := ((e5) == 2)) rfl (fun hc => ?_) (fun hc => ?_)
            · replace h := h.1 (is_eq.t hc)
              refine w_seq ?_
              refine w_run [0, 0, 1, 0, 1, 1, 0] ?_
              refine t_call true nFQueue_cut [(.agg [q0, q1, q2, q3, q4]), (.int .i64 r27), (.bool true)] H28 (by kernel_rfl) h ?_
              clear h
              rintro _ H86 ⟨r81, r82, r83, r84, r85, rfl, h⟩
              refine t_call true nFQueue_settled [(.agg [r81, r82, r83, r84, r85]), (.int .i64 window8)] H86 (by kernel_rfl) h ?_
              clear h
              rintro _ H93 ⟨r88, r89, r90, r91, r92, rfl, h⟩
              obtain ⟨hs95, h⟩ := h
              obtain ⟨hs96, h⟩ := h
              obtain ⟨hs97, h⟩ := h
              obtain ⟨hs98, h⟩ := h
              obtain ⟨hs99, h⟩ := h
              refine t_upd true 5 0 [.empty, .empty, .empty, .empty, .empty] (.agg [r88, r89, r90, r91, r92]) [r88, r89, r90, r91, r92] [r88, r89, r90, r91, r92] H93 (by kernel_rfl) rfl (all_c hs95.2 (all_c hs96.2 (all_c hs97.2 (all_c hs98.2 (all_c hs99.2 all_n))))) ⟨rfl, Nat.le_of_ble_eq_true (by kernel_rfl), rfl⟩ ?_
              refine t_done [(.agg [q0, q1, q2, q3, q4]), (.agg [(.int .i64 e5), (.int .i64 e6), (.int .i64 e7)]), (.int .i64 window8), (.agg [r88, r89, r90, r91, r92]), (.int .i64 0), (.agg [(.int .i64 e5), (.int .i64 e6), (.int .i64 e7)]), (.bool ((decide (e5 < 1)) || (decide (e5 > 4)))), (.agg [q0, q1, q2, q3, q4]), (.bool ((((decide (e6 < 1)) || (decide (e6 > 1000000000))) || (decide (e7 < 0))) || (decide (e7 > 3)))), (.bool ((decide (e5 > 1)) && (decide (e7 > 0)))), (.bool ((e5) == 1)), (.int .i64 r27), .undef, .undef, (.bool (decide (r27 < 0))), (.bool ((e5) == 2)), .undef, .undef, .undef] H93 (by kernel_rfl) ?_
              refine then_norm ?_
              refine w_ret ?_
              refine then_ret ?_
              exact body_ret (vs := [(.agg [r88, r89, r90, r91, r92]), (.int .i64 0)]) _ (by kernel_rfl) rfl h
            · replace h := h.2 (is_eq.f hc)
              refine w_skip ?_
              refine then_norm ?_
              refine w_seq ?_
              refine w_seq ?_
              refine w_run [0, 0, 0, 1, 1, 0] ?_
              obtain ⟨e100, hg101, h⟩ := h
              refine t_idxG true 1 q2 .i64 r27 H28 (by kernel_rfl) hg101 ?_
              refine t_loadG true none 1 q2 r27 0 (.int .i64 e100) H28 (by kernel_rfl) hg101 ?_
              refine t_done [(.agg [q0, q1, q2, q3, q4]), (.agg [(.int .i64 e5), (.int .i64 e6), (.int .i64 e7)]), (.int .i64 window8), (.agg [.empty, .empty, .empty, .empty, .empty]), (.int .i64 0), (.agg [(.int .i64 e5), (.int .i64 e6), (.int .i64 e7)]), (.bool ((decide (e5 < 1)) || (decide (e5 > 4)))), (.agg [q0, q1, q2, q3, q4]), (.bool ((((decide (e6 < 1)) || (decide (e6 > 1000000000))) || (decide (e7 < 0))) || (decide (e7 > 3)))), (.bool ((decide (e5 > 1)) && (decide (e7 > 0)))), (.bool ((e5) == 1)), (.int .i64 r27), .undef, .undef, (.bool (decide (r27 < 0))), (.bool ((e5) == 2)), (.bool ((e100) != 1)), .undef, .undef] H28 (by kernel_rfl) ?_
              refine then_norm ?_
              refine w_cond (t := ((e100) != 1)) rfl (fun hc => ?_) (fun hc => ?_)
              · replace h := h.1 (is_ne.t hc)
                refine w_seq ?_
                refine w_run [0, 1, 0] ?_
                obtain ⟨hs102, h⟩ := h
                obtain ⟨hs103, h⟩ := h
                obtain ⟨hs104, h⟩ := h
                obtain ⟨hs105, h⟩ := h
                obtain ⟨hs106, h⟩ := h
                refine t_upd true 5 0 [.empty, .empty, .empty, .empty, .empty] (.agg [q0, q1, q2, q3, q4]) [q0, q1, q2, q3, q4] [q0, q1, q2, q3, q4] H28 (by kernel_rfl) rfl (all_c hs102.2 (all_c hs103.2 (all_c hs104.2 (all_c hs105.2 (all_c hs106.2 all_n))))) ⟨rfl, Nat.le_of_ble_eq_true (by kernel_rfl), rfl⟩ ?_
                refine t_done [(.agg [q0, q1, q2, q3, q4]), (.agg [(.int .i64 e5), (.int .i64 e6), (.int .i64 e7)]), (.int .i64 window8), (.agg [q0, q1, q2, q3, q4]), (.int .i64 11), (.agg [(.int .i64 e5), (.int .i64 e6), (.int .i64 e7)]), (.bool ((decide (e5 < 1)) || (decide (e5 > 4)))), (.agg [q0, q1, q2, q3, q4]), (.bool ((((decide (e6 < 1)) || (decide (e6 > 1000000000))) || (decide (e7 < 0))) || (decide (e7 > 3)))), (.bool ((decide (e5 > 1)) && (decide (e7 > 0)))), (.bool ((e5) == 1)), (.int .i64 r27), .undef, .undef, (.bool (decide (r27 < 0))), (.bool ((e5) == 2)), (.bool ((e100) != 1)), .undef, .undef] H28 (by kernel_rfl) ?_
                refine then_norm ?_
                refine w_ret ?_
                refine then_ret ?_
                exact body_ret (vs := [(.agg [q0, q1, q2, q3, q4]), (.int .i64 11)]) _ (by kernel_rfl) rfl h
              · replace h := h.2 (is_ne.f hc)
                refine w_skip ?_
                refine then_norm ?_
                refine w_seq ?_
                refine w_run [0, 1, 1, 1] ?_
                refine t_call true nFQueue_cut [(.agg [q0, q1, q2, q3, q4]), (.int .i64 (-1)), (.bool false)] H28 (by kernel_rfl) h ?_
                clear h
                rintro _ H112 ⟨r107, r108, r109, r110, r111, rfl, h⟩
                obtain ⟨H114, hb⟩ : ∃ H', Dead1 H112 1 H' := ⟨_, ⟨rfl⟩⟩
                replace h := h H114 hb
                refine t_tomb true 1 (.agg [.empty, .empty, .empty, .empty, .empty]) [.empty, .empty, .empty, .empty, .empty] H114 H112 (by kernel_rfl) rfl hb ?_
                obtain ⟨hs115, h⟩ := h
                obtain ⟨hs116, h⟩ := h
                obtain ⟨hs117, h⟩ := h
                obtain ⟨hs118, h⟩ := h
                obtain ⟨hs119, h⟩ := h
                refine t_upd true 5 0 [.empty, .empty, .empty, .empty, .empty] (.agg [r107, r108, r109, r110, r111]) [r107, r108, r109, r110, r111] [r107, r108, r109, r110, r111] H114 (by kernel_rfl) rfl (all_c hs115.2 (all_c hs116.2 (all_c hs117.2 (all_c hs118.2 (all_c hs119.2 all_n))))) ⟨rfl, Nat.le_of_ble_eq_true (by kernel_rfl), rfl⟩ ?_
                refine t_done [(.agg [q0, q1, q2, q3, q4]), (.agg [(.int .i64 e5), (.int .i64 e6), (.int .i64 e7)]), (.int .i64 window8), (.agg [.empty, .empty, .empty, .empty, .empty]), (.int .i64 0), (.agg [(.int .i64 e5), (.int .i64 e6), (.int .i64 e7)]), (.bool ((decide (e5 < 1)) || (decide (e5 > 4)))), (.agg [q0, q1, q2, q3, q4]), (.bool ((((decide (e6 < 1)) || (decide (e6 > 1000000000))) || (decide (e7 < 0))) || (decide (e7 > 3)))), (.bool ((decide (e5 > 1)) && (decide (e7 > 0)))), (.bool ((e5) == 1)), (.int .i64 r27), .undef, .undef, (.bool (decide (r27 < 0))), (.bool ((e5) == 2)), (.bool ((e100) != 1)), (.agg [r107, r108, r109, r110, r111]), .undef] H114 (by kernel_rfl) ?_
                refine then_norm ?_
                refine w_seq ?_
                refine w_run [0, 0, 0, 1, 1] ?_
                obtain ⟨b120, o121, hp, h⟩ := h
                refine t_idx true 1 r109 .i64 r27 b120 o121 H114 (by kernel_rfl) hp ?_
                obtain ⟨H122, hp, h⟩ := h
                refine t_store true 1 b120 o121 (.int .i64 2) H122 H114 (by kernel_rfl) hp ?_
                refine t_done [(.agg [q0, q1, q2, q3, q4]), (.agg [(.int .i64 e5), (.int .i64 e6), (.int .i64 e7)]), (.int .i64 window8), (.agg [.empty, .empty, .empty, .empty, .empty]), (.int .i64 0), (.agg [(.int .i64 e5), (.int .i64 e6), (.int .i64 e7)]), (.bool ((decide (e5 < 1)) || (decide (e5 > 4)))), (.agg [q0, q1, q2, q3, q4]), (.bool ((((decide (e6 < 1)) || (decide (e6 > 1000000000))) || (decide (e7 < 0))) || (decide (e7 > 3)))), (.bool ((decide (e5 > 1)) && (decide (e7 > 0)))), (.bool ((e5) == 1)), (.int .i64 r27), .undef, .undef, (.bool (decide (r27 < 0))), (.bool ((e5) == 2)), (.bool ((e100) != 1)), (.agg [r107, r108, r109, r110, r111]), .undef] H122 (by kernel_rfl) ?_
                refine then_norm ?_
                refine w_seq ?_
                refine w_seq ?_
                refine w_run [0, 0, 0] ?_
                refine t_done [(.agg [q0, q1, q2, q3, q4]), (.agg [(.int .i64 e5), (.int .i64 e6), (.int .i64 e7)]), (.int .i64 window8), (.agg [.empty, .empty, .empty, .empty, .empty]), (.int .i64 0), (.agg [(.int .i64 e5), (.int .i64 e6), (.int .i64 e7)]), (.bool ((decide (e5 < 1)) || (decide (e5 > 4)))), (.agg [q0, q1, q2, q3, q4]), (.bool ((((decide (e6 < 1)) || (decide (e6 > 1000000000))) || (decide (e7 < 0))) || (decide (e7 > 3)))), (.bool ((decide (e5 > 1)) && (decide (e7 > 0)))), (.bool ((e5) == 1)), (.int .i64 r27), .undef, .undef, (.bool (decide (r27 < 0))), (.bool ((e5) == 2)), (.bool ((e100) != 1)), (.agg [r107, r108, r109, r110, r111]), (.bool ((e5) == 4))] H122 (by kernel_rfl) ?_
                refine then_norm ?_
                refine w_cond (t := ((e5) == 4)) rfl (fun hc => ?_) (fun hc => ?_)
                · replace h := h.1 (is_eq.t hc)
                  refine w_run [0, 0, 0, 1, 1] ?_
                  obtain ⟨b123, o124, hp, h⟩ := h
                  refine t_idx true 1 r109 .i64 r27 b123 o124 H122 (by kernel_rfl) hp ?_
                  obtain ⟨H125, hp, h⟩ := h
                  refine t_store true 1 b123 o124 (.int .i64 3) H125 H122 (by kernel_rfl) hp ?_
                  refine t_done [(.agg [q0, q1, q2, q3, q4]), (.agg [(.int .i64 e5), (.int .i64 e6), (.int .i64 e7)]), (.int .i64 window8), (.agg [.empty, .empty, .empty, .empty, .empty]), (.int .i64 0), (.agg [(.int .i64 e5), (.int .i64 e6), (.int .i64 e7)]), (.bool ((decide (e5 < 1)) || (decide (e5 > 4)))), (.agg [q0, q1, q2, q3, q4]), (.bool ((((decide (e6 < 1)) || (decide (e6 > 1000000000))) || (decide (e7 < 0))) || (decide (e7 > 3)))), (.bool ((decide (e5 > 1)) && (decide (e7 > 0)))), (.bool ((e5) == 1)), (.int .i64 r27), .undef, .undef, (.bool (decide (r27 < 0))), (.bool ((e5) == 2)), (.bool ((e100) != 1)), (.agg [r107, r108, r109, r110, r111]), (.bool ((e5) == 4))] H125 (by kernel_rfl) ?_
                  refine then_norm ?_
                  refine w_seq ?_
                  refine w_run [0, 0, 1, 1, 0] ?_
                  refine t_call true nFQueue_settled [(.agg [r107, r108, r109, r110, r111]), (.int .i64 window8)] H125 (by kernel_rfl) h ?_
                  clear h
                  rintro _ H131 ⟨r126, r127, r128, r129, r130, rfl, h⟩
                  obtain ⟨hs133, h⟩ := h
                  obtain ⟨hs134, h⟩ := h
                  obtain ⟨hs135, h⟩ := h
                  obtain ⟨hs136, h⟩ := h
                  obtain ⟨hs137, h⟩ := h
                  refine t_upd true 5 0 [.empty, .empty, .empty, .empty, .empty] (.agg [r126, r127, r128, r129, r130]) [r126, r127, r128, r129, r130] [r126, r127, r128, r129, r130] H131 (by kernel_rfl) rfl (all_c hs133.2 (all_c hs134.2 (all_c hs135.2 (all_c hs136.2 (all_c hs137.2 all_n))))) ⟨rfl, Nat.le_of_ble_eq_true (by kernel_rfl), rfl⟩ ?_
                  refine t_done [(.agg [q0, q1, q2, q3, q4]), (.agg [(.int .i64 e5), (.int .i64 e6), (.int .i64 e7)]), (.int .i64 window8), (.agg [r126, r127, r128, r129, r130]), (.int .i64 0), (.agg [(.int .i64 e5), (.int .i64 e6), (.int .i64 e7)]), (.bool ((decide (e5 < 1)) || (decide (e5 > 4)))), (.agg [q0, q1, q2, q3, q4]), (.bool ((((decide (e6 < 1)) || (decide (e6 > 1000000000))) || (decide (e7 < 0))) || (decide (e7 > 3)))), (.bool ((decide (e5 > 1)) && (decide (e7 > 0)))), (.bool ((e5) == 1)), (.int .i64 r27), .undef, .undef, (.bool (decide (r27 < 0))), (.bool ((e5) == 2)), (.bool ((e100) != 1)), (.agg [r107, r108, r109, r110, r111]), (.bool ((e5) == 4))] H131 (by kernel_rfl) ?_
                  refine then_norm ?_
                  refine w_ret ?_
                  exact body_ret (vs := [(.agg [r126, r127, r128, r129, r130]), (.int .i64 0)]) _ (by kernel_rfl) rfl h
                · replace h := h.2 (is_eq.f hc)
                  refine w_skip ?_
                  refine then_norm ?_
                  refine w_seq ?_
                  refine w_run [0, 0, 1, 1, 0] ?_
                  refine t_call true nFQueue_settled [(.agg [r107, r108, r109, r110, r111]), (.int .i64 window8)] H122 (by kernel_rfl) h ?_
                  clear h
                  rintro _ H143 ⟨r138, r139, r140, r141, r142, rfl, h⟩
                  obtain ⟨hs145, h⟩ := h
                  obtain ⟨hs146, h⟩ := h
                  obtain ⟨hs147, h⟩ := h
                  obtain ⟨hs148, h⟩ := h
                  obtain ⟨hs149, h⟩ := h
                  refine t_upd true 5 0 [.empty, .empty, .empty, .empty, .empty] (.agg [r138, r139, r140, r141, r142]) [r138, r139, r140, r141, r142] [r138, r139, r140, r141, r142] H143 (by kernel_rfl) rfl (all_c hs145.2 (all_c hs146.2 (all_c hs147.2 (all_c hs148.2 (all_c hs149.2 all_n))))) ⟨rfl, Nat.le_of_ble_eq_true (by kernel_rfl), rfl⟩ ?_
                  refine t_done [(.agg [q0, q1, q2, q3, q4]), (.agg [(.int .i64 e5), (.int .i64 e6), (.int .i64 e7)]), (.int .i64 window8), (.agg [r138, r139, r140, r141, r142]), (.int .i64 0), (.agg [(.int .i64 e5), (.int .i64 e6), (.int .i64 e7)]), (.bool ((decide (e5 < 1)) || (decide (e5 > 4)))), (.agg [q0, q1, q2, q3, q4]), (.bool ((((decide (e6 < 1)) || (decide (e6 > 1000000000))) || (decide (e7 < 0))) || (decide (e7 > 3)))), (.bool ((decide (e5 > 1)) && (decide (e7 > 0)))), (.bool ((e5) == 1)), (.int .i64 r27), .undef, .undef, (.bool (decide (r27 < 0))), (.bool ((e5) == 2)), (.bool ((e100) != 1)), (.agg [r107, r108, r109, r110, r111]), (.bool ((e5) == 4))] H143 (by kernel_rfl) ?_
                  refine then_norm ?_
                  refine w_ret ?_
                  exact body_ret (vs := [(.agg [r138, r139, r140, r141, r142]), (.int .i64 0)]) _ (by kernel_rfl) rfl h

def rf_FQueue_State : RFunc := ⟨1, 8, [.part 1 (some 3)],
 ((.seq (.ops [⟨.tomb 1 (.var 0), none, (some 2), true⟩, ⟨.tomb 1 (.k (.agg [.empty, .empty, .empty])), none, (some 1), true⟩])
 ((.seq (.ops [o1 (.field 0 none (.var 2)), o1 (.field 3 none (.var 2)), o1 (.field 0 none (.var 2)), o1 (.field 4 none (.var 2)), o1 (.build [.empty, .empty, .empty] [(1, 1, (.loc 1)), (2, 1, (.loc 3))]), ⟨.tomb 1 (.k (.agg [.empty, .empty, .empty])), none, (some 7), true⟩, ⟨.upd 3 0 (.loc 5) (.loc 4), none, (some 7), true⟩])
 ((.seq ((.seq (.ops [⟨.move (.k (.int .i64 0)), none, (some 3), true⟩])
 (.block 0 (.loop ((.seq ((.seq (.ops [o1 (.move (.var 3)), o1 (.field 0 none (.var 2)), o1 (.field 0 none (.var 2)), o1 (.len (.loc 2)), ⟨.bin .lss .no (.loc 0) (.loc 3), none, (some 4), true⟩])
 (.cond (.var 4) (.skip) (.exit 0))))
 ((.seq (.block 1 ((.seq (.ops [⟨.field 0 none (.var 2), none, none, false⟩, ⟨.field 0 none (.var 2), none, none, false⟩, ⟨.move (.var 3), none, none, false⟩, ⟨.indexAddr 1 (.loc 1) (.loc 2), none, none, false⟩, ⟨.load none (.loc 3), none, none, false⟩, ⟨.field 0 none (.var 2), none, none, false⟩, ⟨.field 1 none (.var 2), none, none, false⟩, ⟨.move (.var 3), none, none, false⟩, ⟨.indexAddr 1 (.loc 6) (.loc 7), none, none, false⟩, ⟨.load none (.loc 8), none, none, false⟩, ⟨.field 0 none (.var 2), none, none, false⟩, ⟨.field 2 none (.var 2), none, none, false⟩, ⟨.move (.var 3), none, none, false⟩, ⟨.indexAddr 1 (.loc 11) (.loc 12), none, none, false⟩, ⟨.load none (.loc 13), none, none, false⟩, ⟨.bin .eql .no (.loc 14) (.k (.int .i64 1)), none, none, false⟩, ⟨.field 0 none (.var 2), none, none, false⟩, ⟨.field 2 none (.var 2), none, none, false⟩, ⟨.move (.var 3), none, none, false⟩, ⟨.indexAddr 1 (.loc 17) (.loc 18), none, none, false⟩, ⟨.load none (.loc 19), none, none, false⟩, ⟨.bin .eql .no (.loc 20) (.k (.int .i64 2)), none, none, false⟩, ⟨.field 0 none (.var 2), none, none, false⟩, ⟨.field 2 none (.var 2), none, none, false⟩, ⟨.move (.var 3), none, none, false⟩, ⟨.indexAddr 1 (.loc 23) (.loc 24), none, none, false⟩, ⟨.load none (.loc 25), none, none, false⟩, ⟨.bin .eql .no (.loc 26) (.k (.int .i64 3)), none, none, false⟩, ⟨.build [.int .i64 0, .int .i64 0, .bool false, .bool false, .bool false, .empty] [(0, 1, (.loc 4)), (1, 1, (.loc 9)), (2, 1, (.loc 15)), (3, 1, (.loc 21)), (4, 1, (.loc 27))], none, none, false⟩, ⟨.tomb 1 (.k (.agg [.int .i64 0, .int .i64 0, .bool false, .bool false, .bool false, .empty])), none, (some 6), false⟩, ⟨.upd 6 0 (.loc 29) (.loc 28), none, (some 6), true⟩])
 ((.seq ((.seq (.ops [o1 (.field 0 none (.var 2)), o1 (.field 2 none (.var 2)), o1 (.move (.var 3)), o1 (.indexAddr 1 (.loc 1) (.loc 2)), o1 (.load none (.loc 3)), ⟨.bin .neq .no (.loc 4) (.k (.int .i64 0)), none, (some 5), true⟩])
 (.cond (.var 5) (.ops [⟨.field 0 none (.var 6), none, none, false⟩, ⟨.field 5 none (.var 6), none, none, false⟩, ⟨.field 0 none (.var 2), none, none, false⟩, ⟨.field 0 none (.var 2), none, none, false⟩, ⟨.move (.var 3), none, none, false⟩, ⟨.slice 1 (.loc 3) none (some (.loc 4)) none, none, none, false⟩, o1 (.append 1 8 (.loc 1) (.loc 5)), o1 (.field 0 none (.var 6)), ⟨.upd 1 5 (.var 6) (.loc 6), none, (some 6), true⟩]) (.skip))))
 (.ops [o1 (.field 0 none (.var 7)), o1 (.field 0 none (.var 7)), o1 (.field 0 (some 6) (.var 6)), o1 (.buildSlice 6 [.int .i64 0, .int .i64 0, .bool false, .bool false, .bool false, .empty] [(0, 6, (.loc 2))] 1), o1 (.append 6 48 (.loc 1) (.loc 3)), o1 (.field 0 none (.var 7)), ⟨.upd 1 0 (.var 7) (.loc 4), none, (some 7), true⟩]))))))
 (.ops [o1 (.move (.var 3)), o1 (.bin .add .no (.loc 0) (.k (.int .i64 1))), ⟨.move (.loc 1), none, (some 3), true⟩])))))))))
 ((.seq (.ops [o1 (.field 0 (some 3) (.var 7)), ⟨.upd 3 0 (.var 1) (.loc 0), none, (some 1), true⟩])
 (.ret))))))))), none⟩
theorem v_FQueue_State {F : Nat → Option RFunc} {me : Nat} (hF : F me = some (rf_FQueue_State )) {fl : Nat} {H : Heap} {Q : AV → Heap → Prop} (q0 : AV) (q1 : AV) (q2 : AV) (q3 : AV) (q4 : AV)
  (h : ∀ (H5 : Heap), Dead1 H 1 H5 → ∀ (H6 : Heap), Dead1 H5 1 H6 → Scal q3 ∧ Scal q4 ∧ ∀ (H9 : Heap), Dead1 H6 1 H9 → ∃ (J10 : Nat → Int → AV → AV → AV → Heap → Prop) (k11 : Nat), J10 k11 0 .empty q3 q4 H9 ∧ (∀ (m12 : Nat) (i13 : Int) (out17 : AV) (out18 : AV) (out19 : AV) (H20 : Heap), J10 m12 i13 out17 out18 out19 H20 → ∃ len21 : Nat, lenA q0 = some len21 ∧ ((i13 < (len21 : Int)) → ∃ (e22 : Int), getA H20 1 none q0 i13 0 = some (.int .i64 e22) ∧ ∃ (e24 : Int), getA H20 1 none q1 i13 0 = some (.int .i64 e24) ∧ ∃ (e26 : Int), getA H20 1 none q2 i13 0 = some (.int .i64 e26) ∧ ∃ (e28 : Int), getA H20 1 none q2 i13 0 = some (.int .i64 e28) ∧ ∃ (e30 : Int), getA H20 1 none q2 i13 0 = some (.int .i64 e30) ∧ ∀ (H32 : Heap), Dead1 H20 1 H32 → ∃ (e33 : Int), getA H32 1 none q2 i13 0 = some (.int .i64 e33) ∧ ((e33 ≠ 0) → ∃ s35 : AV, rslice H32 1 q0 none (some (.int .i64 i13)) none = some s35 ∧ ∃ (a36 : AV) (H37 : Heap), appA fl true 1 8 H32 .empty s35 = some (a36, H37) ∧ Scal a36 ∧ ∀ (b39 : Nat) (H40 : Heap), NewB H37 6 [(.int .i64 e22), (.int .i64 e24), (.bool ((e26) == 1)), (.bool ((e28) == 2)), (.bool ((e30) == 3)), a36] b39 H40 → ∃ (a41 : AV) (H42 : Heap), appA fl true 6 48 H40 out17 (.slice b39 0 1 (some 1)) = some (a41, H42) ∧ Scal a41 ∧ ∃ m44 : Nat, m44 < m12 ∧ J10 m44 (IntKind.wrap .i64 (i13 + 1)) a41 out18 out19 H42) ∧ (¬(e33 ≠ 0) → ∀ (b45 : Nat) (H46 : Heap), NewB H32 6 [(.int .i64 e22), (.int .i64 e24), (.bool ((e26) == 1)), (.bool ((e28) == 2)), (.bool ((e30) == 3)), .empty] b45 H46 → ∃ (a47 : AV) (H48 : Heap), appA fl true 6 48 H46 out17 (.slice b45 0 1 (some 1)) = some (a47, H48) ∧ Scal a47 ∧ ∃ m50 : Nat, m50 < m12 ∧ J10 m50 (IntKind.wrap .i64 (i13 + 1)) a47 out18 out19 H48)) ∧ (¬(i13 < (len21 : Int)) → Scal out17 ∧ Scal out18 ∧ Scal out19 ∧ Q (.agg [out17, out18, out19]) H20))) : Ret F fl me [(.agg [q0, q1, q2, q3, q4])] H Q := by
  refine ret_intro hF rfl ?_
  refine w_seq ?_
  refine w_run [1, 1] ?_
  obtain ⟨H5, hb⟩ : ∃ H', Dead1 H 1 H' := ⟨_, ⟨rfl⟩⟩
  replace h := h H5 hb
  refine t_tomb true 1 (.agg [q0, q1, q2, q3, q4]) [q0, q1, q2, q3, q4] H5 H (by kernel_rfl) rfl hb ?_
  obtain ⟨H6, hb⟩ : ∃ H', Dead1 H5 1 H' := ⟨_, ⟨rfl⟩⟩
  replace h := h H6 hb
  refine t_tomb true 1 (.agg [.empty, .empty, .empty]) [.empty, .empty, .empty] H6 H5 (by kernel_rfl) rfl hb ?_
  refine t_done [(.agg [q0, q1, q2, q3, q4]), (.agg [.empty, .empty, .empty]), (.agg [q0, q1, q2, q3, q4]), .undef, .undef, .undef, .undef, .undef] H6 (by kernel_rfl) ?_
  refine then_norm ?_
  refine w_seq ?_
  refine w_run [0, 0, 0, 0, 1, 1, 1] ?_
  obtain ⟨hs7, h⟩ := h
  obtain ⟨hs8, h⟩ := h
  refine t_build true [.empty, .empty, .empty] [(1, 1, .loc 0), (2, 1, .loc 1)] [q3, q4] [.empty, q3, q4] H6 (by kernel_rfl) (fill_c (vs := [q3]) (size := 1) hs7.1 (by kernel_rfl) (by kernel_rfl) (fill_c (vs := [q4]) (size := 1) hs8.1 (by kernel_rfl) (by kernel_rfl) (by kernel_rfl))) ?_
  obtain ⟨H9, hb⟩ : ∃ H', Dead1 H6 1 H' := ⟨_, ⟨rfl⟩⟩
  replace h := h H9 hb
  refine t_tomb true 1 (.agg [.empty, .empty, .empty]) [.empty, .empty, .empty] H9 H6 (by kernel_rfl) rfl hb ?_
  refine t_upd true 3 0 [.empty, .empty, .empty] (.agg [.empty, q3, q4]) [.empty, q3, q4] [.empty, q3, q4] H9 (by kernel_rfl) rfl (all_c rfl (all_c hs7.2 (all_c hs8.2 all_n))) ⟨rfl, Nat.le_of_ble_eq_true (by kernel_rfl), rfl⟩ ?_
  refine t_done [(.agg [q0, q1, q2, q3, q4]), (.agg [.empty, .empty, .empty]), (.agg [q0, q1, q2, q3, q4]), .undef, .undef, .undef, .undef, (.agg [.empty, q3, q4])] H9 (by kernel_rfl) ?_
  refine then_norm ?_
  refine w_seq ?_
  refine w_seq ?_
  refine w_run [0] ?_
  refine t_done [(.agg [q0, q1, q2, q3, q4]), (.agg [.empty, .empty, .empty]), (.agg [q0, q1, q2, q3, q4]), (.int .i64 0), .undef, .undef, .undef, (.agg [.empty, q3, q4])] H9 (by kernel_rfl) ?_
  refine then_norm ?_
  refine w_block ?_
  obtain ⟨J10, k11, h0, h⟩ := h
  refine w_loop (I := fun mI EI HI => ∃ (i13 : Int) (d14 : AV) (d15 : AV) (d16 : AV) (out17 : AV) (out18 : AV) (out19 : AV), EI = [(.agg [q0, q1, q2, q3, q4]), (.agg [.empty, .empty, .empty]), (.agg [q0, q1, q2, q3, q4]), (.int .i64 i13), d14, d15, d16, (.agg [out17, out18, out19])] ∧ J10 mI i13 out17 out18 out19 HI) ?_ k11 ⟨_, _, _, _, _, _, _, rfl, h0⟩
  clear h0
  rintro m12 EI H20 ⟨i13, d14, d15, d16, out17, out18, out19, rfl, hJ⟩
  replace h := h m12 i13 out17 out18 out19 H20 hJ
  clear hJ
  refine w_seq ?_
  refine w_seq ?_
  refine w_run [0, 0, 0, 1, 0] ?_
  obtain ⟨len21, hl, h⟩ := h
  refine t_len true q0 len21 H20 (by kernel_rfl) hl ?_
  refine t_done [(.agg [q0, q1, q2, q3, q4]), (.agg [.empty, .empty, .empty]), (.agg [q0, q1, q2, q3, q4]), (.int .i64 i13), (.bool (decide (i13 < (len21 : Int)))), d15, d16, (.agg [out17, out18, out19])] H20 (by kernel_rfl) ?_
  refine then_norm ?_
  refine w_cond (t := (decide (i13 < (len21 : Int)))) rfl (fun hc => ?_) (fun hc => ?_)
  · replace h := h.1 (is_dec.t hc)
    refine w_skip ?_
    refine then_norm ?_
    refine w_seq ?_
    refine w_block ?_
    refine w_seq ?_
    refine w_run [0, 0, 0, 1, 1, 0, 0, 0, 1, 1, 0, 0, 0, 1, 1, 0, 0, 0, 0, 1, 1, 0, 0, 0, 0, 1, 1, 0, 1, 1, 1] ?_
    obtain ⟨e22, hg23, h⟩ := h
    refine t_idxG false 1 q0 .i64 i13 H20 (by kernel_rfl) hg23 ?_
    refine t_loadG false none 1 q0 i13 0 (.int .i64 e22) H20 (by kernel_rfl) hg23 ?_
    obtain ⟨e24, hg25, h⟩ := h
    refine t_idxG false 1 q1 .i64 i13 H20 (by kernel_rfl) hg25 ?_
    refine t_loadG false none 1 q1 i13 0 (.int .i64 e24) H20 (by kernel_rfl) hg25 ?_
    obtain ⟨e26, hg27, h⟩ := h
    refine t_idxG false 1 q2 .i64 i13 H20 (by kernel_rfl) hg27 ?_
    refine t_loadG false none 1 q2 i13 0 (.int .i64 e26) H20 (by kernel_rfl) hg27 ?_
    obtain ⟨e28, hg29, h⟩ := h
    refine t_idxG false 1 q2 .i64 i13 H20 (by kernel_rfl) hg29 ?_
    refine t_loadG false none 1 q2 i13 0 (.int .i64 e28) H20 (by kernel_rfl) hg29 ?_
    obtain ⟨e30, hg31, h⟩ := h
    refine t_idxG false 1 q2 .i64 i13 H20 (by kernel_rfl) hg31 ?_
    refine t_loadG false none 1 q2 i13 0 (.int .i64 e30) H20 (by kernel_rfl) hg31 ?_
    refine t_build false [(.int .i64 0), (.int .i64 0), (.bool false), (.bool false), (.bool false), .empty] [(0, 1, .loc 0), (1, 1, .loc 1), (2, 1, .loc 2), (3, 1, .loc 3), (4, 1, .loc 4)] [(.int .i64 e22), (.int .i64 e24), (.bool ((e26) == 1)), (.bool ((e28) == 2)), (.bool ((e30) == 3))] [(.int .i64 e22), (.int .i64 e24), (.bool ((e26) == 1)), (.bool ((e28) == 2)), (.bool ((e30) == 3)), .empty] H20 (by kernel_rfl) (fill_c (vs := [(.int .i64 e22)]) (size := 1) rfl (by kernel_rfl) (by kernel_rfl) (fill_c (vs := [(.int .i64 e24)]) (size := 1) rfl (by kernel_rfl) (by kernel_rfl) (fill_c (vs := [(.bool ((e26) == 1))]) (size := 1) rfl (by kernel_rfl) (by kernel_rfl) (fill_c (vs := [(.bool ((e28) == 2))]) (size := 1) rfl (by kernel_rfl) (by kernel_rfl) (fill_c (vs := [(.bool ((e30) == 3))]) (size := 1) rfl (by kernel_rfl) (by kernel_rfl) (by kernel_rfl)))))) ?_
    obtain ⟨H32, hb⟩ : ∃ H', Dead1 H20 1 H' := ⟨_, ⟨rfl⟩⟩
    replace h := h H32 hb
    refine t_tomb false 1 (.agg [(.int .i64 0), (.int .i64 0), (.bool false), (.bool false), (.bool false), .empty]) [(.int .i64 0), (.int .i64 0), (.bool false), (.bool false), (.bool false), .empty] H32 H20 (by kernel_rfl) rfl hb ?_
    refine t_upd true 6 0 [(.int .i64 0), (.int .i64 0), (.bool false), (.bool false), (.bool false), .empty] (.agg [(.int .i64 e22), (.int .i64 e24), (.bool ((e26) == 1)), (.bool ((e28) == 2)), (.bool ((e30) == 3)), .empty]) [(.int .i64 e22), (.int .i64 e24), (.bool ((e26) == 1)), (.bool ((e28) == 2)), (.bool ((e30) == 3)), .empty] [(.int .i64 e22), (.int .i64 e24), (.bool ((e26) == 1)), (.bool ((e28) == 2)), (.bool ((e30) == 3)), .empty] H32 (by kernel_rfl) rfl (all_c rfl (all_c rfl (all_c rfl (all_c rfl (all_c rfl (all_c rfl all_n)))))) ⟨rfl, Nat.le_of_ble_eq_true (by kernel_rfl), rfl⟩ ?_
    refine t_done [(.agg [q0, q1, q2, q3, q4]), (.agg [.empty, .empty, .empty]), (.agg [q0, q1, q2, q3, q4]), (.int .i64 i13), (.bool (decide (i13 < (len21 : Int)))), d15, (.agg [(.int .i64 e22), (.int .i64 e24), (.bool ((e26) == 1)), (.bool ((e28) == 2)), (.bool ((e30) == 3)), .empty]), (.agg [out17, out18, out19])] H32 (by kernel_rfl) ?_
    refine then_norm ?_
    refine w_seq ?_
    refine w_seq ?_
    refine w_run [0, 0, 0, 1, 1, 0] ?_
    obtain ⟨e33, hg34, h⟩ := h
    refine t_idxG true 1 q2 .i64 i13 H32 (by kernel_rfl) hg34 ?_
    refine t_loadG true none 1 q2 i13 0 (.int .i64 e33) H32 (by kernel_rfl) hg34 ?_
    refine t_done [(.agg [q0, q1, q2, q3, q4]), (.agg [.empty, .empty, .empty]), (.agg [q0, q1, q2, q3, q4]), (.int .i64 i13), (.bool (decide (i13 < (len21 : Int)))), (.bool ((e33) != 0)), (.agg [(.int .i64 e22), (.int .i64 e24), (.bool ((e26) == 1)), (.bool ((e28) == 2)), (.bool ((e30) == 3)), .empty]), (.agg [out17, out18, out19])] H32 (by kernel_rfl) ?_
    refine then_norm ?_
    refine w_cond (t := ((e33) != 0)) rfl (fun hc => ?_) (fun hc => ?_)
    · replace h := h.1 (is_ne.t hc)
      refine w_run [0, 0, 0, 0, 0, 1, 1, 0, 1] ?_
      obtain ⟨s35, hs, h⟩ := h
      refine t_slcH false 1 q0 (.int .i64 i13) s35 H32 (by kernel_rfl) hs ?_
      obtain ⟨a36, H37, ha, h⟩ := h
      refine t_app true 1 8 .empty s35 a36 H37 H32 (by kernel_rfl) ha ?_
      obtain ⟨hs38, h⟩ := h
      refine t_upd true 1 5 [(.int .i64 e22), (.int .i64 e24), (.bool ((e26) == 1)), (.bool ((e28) == 2)), (.bool ((e30) == 3)), .empty] a36 [a36] [(.int .i64 e22), (.int .i64 e24), (.bool ((e26) == 1)), (.bool ((e28) == 2)), (.bool ((e30) == 3)), a36] H37 (by kernel_rfl) hs38.1 (all_c hs38.2 all_n) ⟨rfl, Nat.le_of_ble_eq_true (by kernel_rfl), rfl⟩ ?_
      refine t_done [(.agg [q0, q1, q2, q3, q4]), (.agg [.empty, .empty, .empty]), (.agg [q0, q1, q2, q3, q4]), (.int .i64 i13), (.bool (decide (i13 < (len21 : Int)))), (.bool ((e33) != 0)), (.agg [(.int .i64 e22), (.int .i64 e24), (.bool ((e26) == 1)), (.bool ((e28) == 2)), (.bool ((e30) == 3)), a36]), (.agg [out17, out18, out19])] H37 (by kernel_rfl) ?_
      refine then_norm ?_
      refine w_run [0, 0, 0, 1, 1, 0, 1] ?_
      obtain ⟨b39, H40, hb⟩ : ∃ b H', NewB H37 6 [(.int .i64 e22), (.int .i64 e24), (.bool ((e26) == 1)), (.bool ((e28) == 2)), (.bool ((e30) == 3)), a36] b H' := ⟨_, _, rfl, rfl⟩
      replace h := h b39 H40 hb
      refine t_bs true 6 [(.int .i64 0), (.int .i64 0), (.bool false), (.bool false), (.bool false), .empty] [(0, 6, .loc 0)] 1 [(.agg [(.int .i64 e22), (.int .i64 e24), (.bool ((e26) == 1)), (.bool ((e28) == 2)), (.bool ((e30) == 3)), a36])] [(.int .i64 e22), (.int .i64 e24), (.bool ((e26) == 1)), (.bool ((e28) == 2)), (.bool ((e30) == 3)), a36] b39 H40 H37 (by kernel_rfl) (fill_c (vs := [(.int .i64 e22), (.int .i64 e24), (.bool ((e26) == 1)), (.bool ((e28) == 2)), (.bool ((e30) == 3)), a36]) (size := 6) rfl (by kernel_rfl) (by kernel_rfl) (by kernel_rfl)) hb ?_
      obtain ⟨a41, H42, ha, h⟩ := h
      refine t_app true 6 48 out17 (.slice b39 0 1 (some 1)) a41 H42 H40 (by kernel_rfl) ha ?_
      obtain ⟨hs43, h⟩ := h
      refine t_upd true 1 0 [out17, out18, out19] a41 [a41] [a41, out18, out19] H42 (by kernel_rfl) hs43.1 (all_c hs43.2 all_n) ⟨rfl, Nat.le_of_ble_eq_true (by kernel_rfl), rfl⟩ ?_
      refine t_done [(.agg [q0, q1, q2, q3, q4]), (.agg [.empty, .empty, .empty]), (.agg [q0, q1, q2, q3, q4]), (.int .i64 i13), (.bool (decide (i13 < (len21 : Int)))), (.bool ((e33) != 0)), (.agg [(.int .i64 e22), (.int .i64 e24), (.bool ((e26) == 1)), (.bool ((e28) == 2)), (.bool ((e30) == 3)), a36]), (.agg [a41, out18, out19])] H42 (by kernel_rfl) ?_
      refine block_norm ?_
      refine then_norm ?_
      refine w_run [0, 0, 0] ?_
      refine t_done [(.agg [q0, q1, q2, q3, q4]), (.agg [.empty, .empty, .empty]), (.agg [q0, q1, q2, q3, q4]), (.int .i64 (IntKind.wrap .i64 (i13 + 1))), (.bool (decide (i13 < (len21 : Int)))), (.bool ((e33) != 0)), (.agg [(.int .i64 e22), (.int .i64 e24), (.bool ((e26) == 1)), (.bool ((e28) == 2)), (.bool ((e30) == 3)), a36]), (.agg [a41, out18, out19])] H42 (by kernel_rfl) ?_
      obtain ⟨m', hm, h⟩ := h
      refine loop_norm ⟨m', hm, _, _, _, _, _, _, _, rfl, h⟩
    · replace h := h.2 (is_ne.f hc)
      refine w_skip ?_
      refine then_norm ?_
      refine w_run [0, 0, 0, 1, 1, 0, 1] ?_
      obtain ⟨b45, H46, hb⟩ : ∃ b H', NewB H32 6 [(.int .i64 e22), (.int .i64 e24), (.bool ((e26) == 1)), (.bool ((e28) == 2)), (.bool ((e30) == 3)), .empty] b H' := ⟨_, _, rfl, rfl⟩
      replace h := h b45 H46 hb
      refine t_bs true 6 [(.int .i64 0), (.int .i64 0), (.bool false), (.bool false), (.bool false), .empty] [(0, 6, .loc 0)] 1 [(.agg [(.int .i64 e22), (.int .i64 e24), (.bool ((e26) == 1)), (.bool ((e28) == 2)), (.bool ((e30) == 3)), .empty])] [(.int .i64 e22), (.int .i64 e24), (.bool ((e26) == 1)), (.bool ((e28) == 2)), (.bool ((e30) == 3)), .empty] b45 H46 H32 (by kernel_rfl) (fill_c (vs := [(.int .i64 e22), (.int .i64 e24), (.bool ((e26) == 1)), (.bool ((e28) == 2)), (.bool ((e30) == 3)), .empty]) (size := 6) rfl (by kernel_rfl) (by kernel_rfl) (by kernel_rfl)) hb ?_
      obtain ⟨a47, H48, ha, h⟩ := h
      refine t_app true 6 48 out17 (.slice b45 0 1 (some 1)) a47 H48 H46 (by kernel_rfl) ha ?_
      obtain ⟨hs49, h⟩ := h
      refine t_upd true 1 0 [out17, out18, out19] a47 [a47] [a47, out18, out19] H48 (by kernel_rfl) hs49.1 (all_c hs49.2 all_n) ⟨rfl, Nat.le_of_ble_eq_true (by kernel_rfl), rfl⟩ ?_
      refine t_done [(.agg [q0, q1, q2, q3, q4]), (.agg [.empty, .empty, .empty]), (.agg [q0, q1, q2, q3, q4]), (.int .i64 i13), (.bool (decide (i13 < (len21 : Int)))), (.bool ((e33) != 0)), (.agg [(.int .i64 e22), (.int .i64 e24), (.bool ((e26) == 1)), (.bool ((e28) == 2)), (.bool ((e30) == 3)), .empty]), (.agg [a47, out18, out19])] H48 (by kernel_rfl) ?_
      refine block_norm ?_
      refine then_norm ?_
      refine w_run [0, 0, 0] ?_
      refine t_done [(.agg [q0, q1, q2, q3, q4]), (.agg [.empty, .empty, .empty]), (.agg [q0, q1, q2, q3, q4]), (.int .i64 (IntKind.wrap .i64 (i13 + 1))), (.bool (decide (i13 < (len21 : Int)))), (.bool ((e33) != 0)), (.agg [(.int .i64 e22), (.int .i64 e24), (.bool ((e26) == 1)), (.bool ((e28) == 2)), (.bool ((e30) == 3)), .empty]), (.agg [a47, out18, out19])] H48 (by kernel_rfl) ?_
      obtain ⟨m', hm, h⟩ := h
      refine loop_norm ⟨m', hm, _, _, _, _, _, _, _, rfl, h⟩
  · replace h := h.2 (is_dec.f hc)
    refine w_exit ?_
    refine then_exit ?_
    refine loop_exit ?_
    refine block_exit ?_
    refine then_norm ?_
    refine w_seq ?_
    refine w_run [0, 1] ?_
    obtain ⟨hs51, h⟩ := h
    obtain ⟨hs52, h⟩ := h
    obtain ⟨hs53, h⟩ := h
    refine t_upd true 3 0 [.empty, .empty, .empty] (.agg [out17, out18, out19]) [out17, out18, out19] [out17, out18, out19] H20 (by kernel_rfl) rfl (all_c hs51.2 (all_c hs52.2 (all_c hs53.2 all_n))) ⟨rfl, Nat.le_of_ble_eq_true (by kernel_rfl), rfl⟩ ?_
    refine t_done [(.agg [q0, q1, q2, q3, q4]), (.agg [out17, out18, out19]), (.agg [q0, q1, q2, q3, q4]), (.int .i64 i13), (.bool (decide (i13 < (len21 : Int)))), d15, d16, (.agg [out17, out18, out19])] H20 (by kernel_rfl) ?_
    refine then_norm ?_
    refine w_ret ?_
    exact body_ret (vs := [(.agg [out17, out18, out19])]) _ (by kernel_rfl) rfl h

def rf_FRunQueue (nFFault nFQueue_Step : Nat) : RFunc := ⟨2, 12, [.part 2 (some 5), .part 3 (some 2)],
 ((.seq (.ops [⟨.tomb 1 (.k (.agg [.empty, .empty, .empty, .empty, .empty])), none, (some 2), true⟩, ⟨.tomb 1 (.k (.agg [.int .i64 0, .int .i64 0])), none, (some 3), true⟩])
 ((.seq (.ops [⟨.tomb 1 (.k (.agg [.empty, .empty, .empty, .empty, .empty])), none, (some 5), true⟩])
 ((.seq ((.seq (.ops [o1 (.move (.var 0)), o1 (.bin .lss .no (.loc 0) (.k (.int .i64 1))), o1 (.move (.loc 1)), o1 (.move (.var 0)), o1 (.bin .gtr .no (.loc 3) (.k (.int .i64 4))), ⟨.pick (.loc 2) (.k (.bool true)) (.loc 4), none, (some 4), true⟩])
 (.cond (.var 4) ((.seq (.ops [⟨.field 0 (some 5) (.var 5), none, none, false⟩, ⟨.callS nFFault [(.k (.int .i64 3)), (.k (.int .i64 (-2)))], none, none, false⟩, ⟨.upd 5 0 (.var 2) (.loc 0), none, (some 2), true⟩, ⟨.upd 2 0 (.var 3) (.loc 1), none, (some 3), true⟩])
 (.ret))) (.skip))))
 ((.seq ((.seq (.ops [o1 (.move (.var 1)), o1 (.len (.loc 0)), ⟨.bin .gtr .no (.loc 1) (.k (.int .i64 40)), none, (some 6), true⟩])
 (.cond (.var 6) ((.seq (.ops [⟨.field 0 (some 5) (.var 5), none, none, false⟩, ⟨.callS nFFault [(.k (.int .i64 2)), (.k (.int .i64 (-1)))], none, none, false⟩, ⟨.upd 5 0 (.var 2) (.loc 0), none, (some 2), true⟩, ⟨.upd 2 0 (.var 3) (.loc 1), none, (some 3), true⟩])
 (.ret))) (.skip))))
 ((.seq ((.seq (.ops [⟨.move (.k (.int .i64 0)), none, (some 7), true⟩])
 (.block 0 (.loop ((.seq ((.seq (.ops [o1 (.move (.var 7)), o1 (.move (.var 1)), o1 (.len (.loc 1)), ⟨.bin .lss .no (.loc 0) (.loc 2), none, (some 8), true⟩])
 (.cond (.var 8) (.skip) (.exit 0))))
 ((.seq (.block 1 ((.seq (.ops [⟨.field 0 (some 5) (.var 5), none, none, false⟩, ⟨.move (.var 1), none, none, false⟩, ⟨.move (.var 7), none, none, false⟩, ⟨.indexAddr 3 (.loc 1) (.loc 2), none, none, false⟩, ⟨.load (some 3) (.loc 3), none, none, false⟩, ⟨.move (.var 0), none, none, false⟩, ⟨.callS nFQueue_Step [(.loc 0), (.loc 4), (.loc 5)], none, none, false⟩, ⟨.move (.loc 6), none, none, false⟩, ⟨.extract (.loc 7) 0, none, none, false⟩, ⟨.extract (.loc 7) 1, none, none, false⟩, ⟨.tomb 1 (.k (.agg [.empty, .empty, .empty, .empty, .empty])), none, (some 11), false⟩, ⟨.upd 5 0 (.loc 10) (.loc 8), none, (some 11), true⟩, ⟨.move (.loc 9), none, (some 9), true⟩])
 ((.seq ((.seq (.ops [o1 (.move (.var 9)), ⟨.bin .neq .no (.loc 0) (.k (.int .i64 0)), none, (some 10), true⟩])
 (.cond (.var 10) ((.seq (.ops [o1 (.build [.empty, .empty, .empty, .empty, .empty] []), o1 (.move (.var 9)), o1 (.move (.var 7)), o1 (.callS nFFault [(.loc 1), (.loc 2)]), ⟨.upd 5 0 (.var 2) (.loc 0), none, (some 2), true⟩, ⟨.upd 2 0 (.var 3) (.loc 3), none, (some 3), true⟩])
 (.ret))) (.skip))))
 (.ops [o1 (.field 0 (some 5) (.var 11)), ⟨.upd 5 0 (.var 5) (.loc 0), none, (some 5), true⟩]))))))
 (.ops [o1 (.move (.var 7)), o1 (.bin .add .no (.loc 0) (.k (.int .i64 1))), ⟨.move (.loc 1), none, (some 7), true⟩])))))))))
 ((.seq (.ops [⟨.field 0 (some 5) (.var 5), none, none, false⟩, ⟨.callS nFFault [(.k (.int .i64 0)), (.k (.int .i64 0))], none, none, false⟩, ⟨.upd 5 0 (.var 2) (.loc 0), none, (some 2), true⟩, ⟨.upd 2 0 (.var 3) (.loc 1), none, (some 3), true⟩])
 (.ret))))))))))))), none⟩
theorem v_FRunQueue {F : Nat → Option RFunc} {me nFFault nFQueue_Step : Nat} (hF : F me = some (rf_FRunQueue nFFault nFQueue_Step)) {fl : Nat} {H : Heap} {Q : AV → Heap → Prop} (window0 : Int) (events1 : AV)
  (h : ∀ (H2 : Heap), Dead1 H 1 H2 → ∀ (H3 : Heap), Dead1 H2 1 H3 → ∀ (H4 : Heap), Dead1 H3 1 H4 → ((((window0 < 1) ∨ (window0 > 4))) → Ret F H4.length nFFault [(.int .i64 3), (.int .i64 (-2))] H4 (fun v8 H7 => ∃ (r5 : Int) (r6 : Int), v8 = (.agg [(.int .i64 r5), (.int .i64 r6)]) ∧ Q (.tuple [(.agg [.empty, .empty, .empty, .empty, .empty]), (.agg [(.int .i64 r5), (.int .i64 r6)])]) H7)) ∧ (¬(((window0 < 1) ∨ (window0 > 4))) → ∃ len9 : Nat, lenA events1 = some len9 ∧ (((len9 : Int) > 40) → Ret F H4.length nFFault [(.int .i64 2), (.int .i64 (-1))] H4 (fun v13 H12 => ∃ (r10 : Int) (r11 : Int), v13 = (.agg [(.int .i64 r10), (.int .i64 r11)]) ∧ Q (.tuple [(.agg [.empty, .empty, .empty, .empty, .empty]), (.agg [(.int .i64 r10), (.int .i64 r11)])]) H12)) ∧ (¬((len9 : Int) > 40) → ∃ (J14 : Nat → AV → AV → AV → AV → AV → Int → Int → AV → AV → AV → AV → AV → Int → Heap → Prop) (k15 : Nat), J14 k15 .empty .empty .empty .empty .empty 0 0 .empty .empty .empty .empty .empty 0 H4 ∧ (∀ (m16 : Nat) (v17 : AV) (v18 : AV) (v19 : AV) (v20 : AV) (v21 : AV) (v22 : Int) (v23 : Int) (q24 : AV) (q25 : AV) (q26 : AV) (q27 : AV) (q28 : AV) (i29 : Int) (H34 : Heap), J14 m16 v17 v18 v19 v20 v21 v22 v23 q24 q25 q26 q27 q28 i29 H34 → ∃ len35 : Nat, lenA events1 = some len35 ∧ ((i29 < (len35 : Int)) → ∃ (e36 : Int) (e37 : Int) (e38 : Int), getA H34 3 (some 3) events1 i29 0 = some (.agg [(.int .i64 e36), (.int .i64 e37), (.int .i64 e38)]) ∧ Ret F H34.length nFQueue_Step [(.agg [q24, q25, q26, q27, q28]), (.agg [(.int .i64 e36), (.int .i64 e37), (.int .i64 e38)]), (.int .i64 window0)] H34 (fun v47 H46 => ∃ (r40 : AV) (r41 : AV) (r42 : AV) (r43 : AV) (r44 : AV) (r45 : Int), v47 = (.tuple [(.agg [r40, r41, r42, r43, r44]), (.int .i64 r45)]) ∧ ∀ (H48 : Heap), Dead1 H46 1 H48 → Scal r40 ∧ Scal r41 ∧ Scal r42 ∧ Scal r43 ∧ Scal r44 ∧ ((r45 ≠ 0) → Ret F fl nFFault [(.int .i64 r45), (.int .i64 i29)] H48 (fun v57 H56 => ∃ (r54 : Int) (r55 : Int), v57 = (.agg [(.int .i64 r54), (.int .i64 r55)]) ∧ Q (.tuple [(.agg [.empty, .empty, .empty, .empty, .empty]), (.agg [(.int .i64 r54), (.int .i64 r55)])]) H56)) ∧ (¬(r45 ≠ 0) → ∃ m58 : Nat, m58 < m16 ∧ J14 m58 v17 v18 v19 v20 v21 v22 v23 r40 r41 r42 r43 r44 (IntKind.wrap .i64 (i29 + 1)) H48))) ∧ (¬(i29 < (len35 : Int)) → Ret F H34.length nFFault [(.int .i64 0), (.int .i64 0)] H34 (fun v62 H61 => ∃ (r59 : Int) (r60 : Int), v62 = (.agg [(.int .i64 r59), (.int .i64 r60)]) ∧ Scal q24 ∧ Scal q25 ∧ Scal q26 ∧ Scal q27 ∧ Scal q28 ∧ Q (.tuple [(.agg [q24, q25, q26, q27, q28]), (.agg [(.int .i64 r59), (.int .i64 r60)])]) H61)))))) : Ret F fl me [(.int .i64 window0), events1] H Q := by
  refine ret_intro hF rfl ?_
  refine w_seq ?_
  refine w_run [1, 1] ?_
  obtain ⟨H2, hb⟩ : ∃ H', Dead1 H 1 H' := ⟨_, ⟨rfl⟩⟩
  replace h := h H2 hb
  refine t_tomb true 1 (.agg [.empty, .empty, .empty, .empty, .empty]) [.empty, .empty, .empty, .empty, .empty] H2 H (by kernel_rfl) rfl hb ?_
  obtain ⟨H3, hb⟩ : ∃ H', Dead1 H2 1 H' := ⟨_, ⟨rfl⟩⟩
  replace h := h H3 hb
  refine t_tomb true 1 (.agg [(.int .i64 0), (.int .i64 0)]) [(.int .i64 0), (.int .i64 0)] H3 H2 (by kernel_rfl) rfl hb ?_
  refine t_done [(.int .i64 window0), events1, (.agg [.empty, .empty, .empty, .empty, .empty]), (.agg [(.int .i64 0), (.int .i64 0)]), .undef, .undef, .undef, .undef, .undef, .undef, .undef, .undef] H3 (by kernel_rfl) ?_
  refine then_norm ?_
  refine w_seq ?_
  refine w_run [1] ?_
  obtain ⟨H4, hb⟩ : ∃ H', Dead1 H3 1 H' := ⟨_, ⟨rfl⟩⟩
  replace h := h H4 hb
  refine t_tomb true 1 (.agg [.empty, .empty, .empty, .empty, .empty]) [.empty, .empty, .empty, .empty, .empty] H4 H3 (by kernel_rfl) rfl hb ?_
  refine t_done [(.int .i64 window0), events1, (.agg [.empty, .empty, .empty, .empty, .empty]), (.agg [(.int .i64 0), (.int .i64 0)]), .undef, (.agg [.empty, .empty, .empty, .empty, .empty]), .undef, .undef, .undef, .undef, .undef, .undef] H4 (by kernel_rfl) ?_
  refine then_norm ?_
  refine w_seq ?_
  refine w_seq ?_
  refine w_run [0, 0, 0, 0, 0, 0] ?_
  refine t_done [(.int .i64 window0), events1, (.agg [.empty, .empty, .empty, .empty, .empty]), (.agg [(.int .i64 0), (.int .i64 0)]), (.bool ((decide (window0 < 1)) || (decide (window0 > 4)))), (.agg [.empty, .empty, .empty, .empty, .empty]), .undef, .undef, .undef, .undef, .undef, .undef] H4 (by kernel_rfl) ?_
  refine then_norm ?_
  refine w_cond (t := ((decide (window0 < 1)) || (decide (window0 > 4)))) rfl (fun hc => ?_) (fun hc => ?_)
  · replace h := h.1 ((is_or is_dec is_dec).t hc)
    refine w_seq ?_
    refine w_run [0, 1, 1, 1] ?_
    refine t_call false nFFault [(.int .i64 3), (.int .i64 (-2))] H4 (by kernel_rfl) h ?_
    clear h
    rintro _ H7 ⟨r5, r6, rfl, h⟩
    refine t_upd true 5 0 [.empty, .empty, .empty, .empty, .empty] (.agg [.empty, .empty, .empty, .empty, .empty]) [.empty, .empty, .empty, .empty, .empty] [.empty, .empty, .empty, .empty, .empty] H7 (by kernel_rfl) rfl (all_c rfl (all_c rfl (all_c rfl (all_c rfl (all_c rfl all_n))))) ⟨rfl, Nat.le_of_ble_eq_true (by kernel_rfl), rfl⟩ ?_
    refine t_upd true 2 0 [(.int .i64 0), (.int .i64 0)] (.agg [(.int .i64 r5), (.int .i64 r6)]) [(.int .i64 r5), (.int .i64 r6)] [(.int .i64 r5), (.int .i64 r6)] H7 (by kernel_rfl) rfl (all_c rfl (all_c rfl all_n)) ⟨rfl, Nat.le_of_ble_eq_true (by kernel_rfl), rfl⟩ ?_
    refine t_done [(.int .i64 window0), events1, (.agg [.empty, .empty, .empty, .empty, .empty]), (.agg [(.int .i64 r5), (.int .i64 r6)]), (.bool ((decide (window0 < 1)) || (decide (window0 > 4)))), (.agg [.empty, .empty, .empty, .empty, .empty]), .undef, .undef, .undef, .undef, .undef, .undef] H7 (by kernel_rfl) ?_
    refine then_norm ?_
    refine w_ret ?_
    refine then_ret ?_
    exact body_ret (vs := [(.agg [.empty, .empty, .empty, .empty, .empty]), (.agg [(.int .i64 r5), (.int .i64 r6)])]) _ (by kernel_rfl) rfl h
  · replace h := h.2 ((is_or is_dec is_dec).f hc)
    refine w_skip ?_
    refine then_norm ?_
    refine w_seq ?_
    refine w_seq ?_
    refine w_run [0, 1, 0] ?_
    obtain ⟨len9, hl, h⟩ := h
    refine t_len true events1 len9 H4 (by kernel_rfl) hl ?_
    refine t_done [(.int .i64 window0), events1, (.agg [.empty, .empty, .empty, .empty, .empty]), (.agg [(.int .i64 0), (.int .i64 0)]), (.bool ((decide (window0 < 1)) || (decide (window0 > 4)))), (.agg [.empty, .empty, .empty, .empty, .empty]), (.bool (decide ((len9 : Int) > 40))), .undef, .undef, .undef, .undef, .undef] H4 (by kernel_rfl) ?_
    refine then_norm ?_
    refine w_cond (t := (decide ((len9 : Int) > 40))) rfl (fun hc => ?_) (fun hc => ?_)
    · replace h := h.1 (is_dec.t hc)
      refine w_seq ?_
      refine w_run [0, 1, 1, 1] ?_
      refine t_call false nFFault [(.int .i64 2), (.int .i64 (-1))] H4 (by kernel_rfl) h ?_
      clear h
      rintro _ H12 ⟨r10, r11, rfl, h⟩
      refine t_upd true 5 0 [.empty, .empty, .empty, .empty, .empty] (.agg [.empty, .empty, .empty, .empty, .empty]) [.empty, .empty, .empty, .empty, .empty] [.empty, .empty, .empty, .empty, .empty] H12 (by kernel_rfl) rfl (all_c rfl (all_c rfl (all_c rfl (all_c rfl (all_c rfl all_n))))) ⟨rfl, Nat.le_of_ble_eq_true (by kernel_rfl), rfl⟩ ?_
      refine t_upd true 2 0 [(.int .i64 0), (.int .i64 0)] (.agg [(.int .i64 r10), (.int .i64 r11)]) [(.int .i64 r10), (.int .i64 r11)] [(.int .i64 r10), (.int .i64 r11)] H12 (by kernel_rfl) rfl (all_c rfl (all_c rfl all_n)) ⟨rfl, Nat.le_of_ble_eq_true (by kernel_rfl), rfl⟩ ?_
      refine t_done [(.int .i64 window0), events1, (.agg [.empty, .empty, .empty, .empty, .empty]), (.agg [(.int .i64 r10), (.int .i64 r11)]), (.bool ((decide (window0 < 1)) || (decide (window0 > 4)))), (.agg [.empty, .empty, .empty, .empty, .empty]), (.bool (decide ((len9 : Int) > 40))), .undef, .undef, .undef, .undef, .undef] H12 (by kernel_rfl) ?_
      refine then_norm ?_
      refine w_ret ?_
      refine then_ret ?_
      exact body_ret (vs := [(.agg [.empty, .empty, .empty, .empty, .empty]), (.agg [(.int .i64 r10), (.int .i64 r11)])]) _ (by kernel_rfl) rfl h
    · replace h := h.2 (is_dec.f hc)
      refine w_skip ?_
      refine then_norm ?_
      refine w_seq ?_
      refine w_seq ?_
      refine w_run [0] ?_
      refine t_done [(.int .i64 window0), events1, (.agg [.empty, .empty, .empty, .empty, .empty]), (.agg [(.int .i64 0), (.int .i64 0)]), (.bool ((decide (window0 < 1)) || (decide (window0 > 4)))), (.agg [.empty, .empty, .empty, .empty, .empty]), (.bool (decide ((len9 : Int) > 40))), (.int .i64 0), .undef, .undef, .undef, .undef] H4 (by kernel_rfl) ?_
      refine then_norm ?_
      refine w_block ?_
      obtain ⟨J14, k15, h0, h⟩ := h
      refine w_loop (I := fun mI EI HI => ∃ (v17 : AV) (v18 : AV) (v19 : AV) (v20 : AV) (v21 : AV) (v22 : Int) (v23 : Int) (q24 : AV) (q25 : AV) (q26 : AV) (q27 : AV) (q28 : AV) (i29 : Int) (d30 : AV) (d31 : AV) (d32 : AV) (d33 : AV), EI = [(.int .i64 window0), events1, (.agg [v17, v18, v19, v20, v21]), (.agg [(.int .i64 v22), (.int .i64 v23)]), (.bool ((decide (window0 < 1)) || (decide (window0 > 4)))), (.agg [q24, q25, q26, q27, q28]), (.bool (decide ((len9 : Int) > 40))), (.int .i64 i29), d30, d31, d32, d33] ∧ J14 mI v17 v18 v19 v20 v21 v22 v23 q24 q25 q26 q27 q28 i29 HI) ?_ k15 ⟨_, _, _, _, _, _, _, _, _, _, _, _, _, _, _, _, _, rfl, h0⟩
      clear h0
      rintro m16 EI H34 ⟨v17, v18, v19, v20, v21, v22, v23, q24, q25, q26, q27, q28, i29, d30, d31, d32, d33, rfl, hJ⟩
      replace h := h m16 v17 v18 v19 v20 v21 v22 v23 q24 q25 q26 q27 q28 i29 H34 hJ
      clear hJ
      refine w_seq ?_
      refine w_seq ?_
      refine w_run [0, 0, 1, 0] ?_
      obtain ⟨len35, hl, h⟩ := h
      refine t_len true events1 len35 H34 (by kernel_rfl) hl ?_
      refine t_done [(.int .i64 window0), events1, (.agg [v17, v18, v19, v20, v21]), (.agg [(.int .i64 v22), (.int .i64 v23)]), (.bool ((decide (window0 < 1)) || (decide (window0 > 4)))), (.agg [q24, q25, q26, q27, q28]), (.bool (decide ((len9 : Int) > 40))), (.int .i64 i29), (.bool (decide (i29 < (len35 : Int)))), d31, d32, d33] H34 (by kernel_rfl) ?_
      refine then_norm ?_
      refine w_cond (t := (decide (i29 < (len35 : Int)))) rfl (fun hc => ?_) (fun hc => ?_)
      · replace h := h.1 (is_dec.t hc)
        refine w_skip ?_
        refine then_norm ?_
        refine w_seq ?_
        refine w_block ?_
        refine w_seq ?_
        refine w_run [0, 0, 0, 1, 1, 0, 1, 0, 0, 0, 1, 1, 0] ?_
        obtain ⟨e36, e37, e38, hg39, h⟩ := h
        refine t_idxG false 3 events1 .i64 i29 H34 (by kernel_rfl) hg39 ?_
        refine t_loadG false (some 3) 3 events1 i29 0 (.agg [(.int .i64 e36), (.int .i64 e37), (.int .i64 e38)]) H34 (by kernel_rfl) hg39 ?_
        refine t_call false nFQueue_Step [(.agg [q24, q25, q26, q27, q28]), (.agg [(.int .i64 e36), (.int .i64 e37), (.int .i64 e38)]), (.int .i64 window0)] H34 (by kernel_rfl) h ?_
        clear h
        rintro _ H46 ⟨r40, r41, r42, r43, r44, r45, rfl, h⟩
        obtain ⟨H48, hb⟩ : ∃ H', Dead1 H46 1 H' := ⟨_, ⟨rfl⟩⟩
        replace h := h H48 hb
        refine t_tomb false 1 (.agg [.empty, .empty, .empty, .empty, .empty]) [.empty, .empty, .empty, .empty, .empty] H48 H46 (by kernel_rfl) rfl hb ?_
        obtain ⟨hs49, h⟩ := h
        obtain ⟨hs50, h⟩ := h
        obtain ⟨hs51, h⟩ := h
        obtain ⟨hs52, h⟩ := h
        obtain ⟨hs53, h⟩ := h
        refine t_upd true 5 0 [.empty, .empty, .empty, .empty, .empty] (.agg [r40, r41, r42, r43, r44]) [r40, r41, r42, r43, r44] [r40, r41, r42, r43, r44] H48 (by kernel_rfl) rfl (all_c hs49.2 (all_c hs50.2 (all_c hs51.2 (all_c hs52.2 (all_c hs53.2 all_n))))) ⟨rfl, Nat.le_of_ble_eq_true (by kernel_rfl), rfl⟩ ?_
        refine t_done [(.int .i64 window0), events1, (.agg [v17, v18, v19, v20, v21]), (.agg [(.int .i64 v22), (.int .i64 v23)]), (.bool ((decide (window0 < 1)) || (decide (window0 > 4)))), (.agg [q24, q25, q26, q27, q28]), (.bool (decide ((len9 : Int) > 40))), (.int .i64 i29), (.bool (decide (i29 < (len35 : Int)))), (.int .i64 r45), d32, (.agg [r40, r41, r42, r43, r44])] H48 (by kernel_rfl) ?_
        refine then_norm ?_
        refine w_seq ?_
        refine w_seq ?_
        refine w_run [0, 0] ?_
        refine t_done [(.int .i64 window0), events1, (.agg [v17, v18, v19, v20, v21]), (.agg [(.int .i64 v22), (.int .i64 v23)]), (.bool ((decide (window0 < 1)) || (decide (window0 > 4)))), (.agg [q24, q25, q26, q27, q28]), (.bool (decide ((len9 : Int) > 40))), (.int .i64 i29), (.bool (decide (i29 < (len35 : Int)))), (.int .i64 r45), (.bool ((r45) != 0)), (.agg [r40, r41, r42, r43, r44])] H48 (by kernel_rfl) ?_
        refine then_norm ?_
        refine w_cond (t := ((r45) != 0)) rfl (fun hc => ?_) (fun hc => ?_)
        · replace h := h.1 (is_ne.t hc)
          refine w_seq ?_
          refine w_run [1, 0, 0, 1, 1, 1] ?_
          refine t_build true [.empty, .empty, .empty, .empty, .empty] [] [] [.empty, .empty, .empty, .empty, .empty] H48 (by kernel_rfl) (by kernel_rfl) ?_
          refine t_call true nFFault [(.int .i64 r45), (.int .i64 i29)] H48 (by kernel_rfl) h ?_
          clear h
          rintro _ H56 ⟨r54, r55, rfl, h⟩
          refine t_upd true 5 0 [v17, v18, v19, v20, v21] (.agg [.empty, .empty, .empty, .empty, .empty]) [.empty, .empty, .empty, .empty, .empty] [.empty, .empty, .empty, .empty, .empty] H56 (by kernel_rfl) rfl (all_c rfl (all_c rfl (all_c rfl (all_c rfl (all_c rfl all_n))))) ⟨rfl, Nat.le_of_ble_eq_true (by kernel_rfl), rfl⟩ ?_
          refine t_upd true 2 0 [(.int .i64 v22), (.int .i64 v23)] (.agg [(.int .i64 r54), (.int .i64 r55)]) [(.int .i64 r54), (.int .i64 r55)] [(.int .i64 r54), (.int .i64 r55)] H56 (by kernel_rfl) rfl (all_c rfl (all_c rfl all_n)) ⟨rfl, Nat.le_of_ble_eq_true (by kernel_rfl), rfl⟩ ?_
          refine t_done [(.int .i64 window0), events1, (.agg [.empty, .empty, .empty, .empty, .empty]), (.agg [(.int .i64 r54), (.int .i64 r55)]), (.bool ((decide (window0 < 1)) || (decide (window0 > 4)))), (.agg [q24, q25, q26, q27, q28]), (.bool (decide ((len9 : Int) > 40))), (.int .i64 i29), (.bool (decide (i29 < (len35 : Int)))), (.int .i64 r45), (.bool ((r45) != 0)), (.agg [r40, r41, r42, r43, r44])] H56 (by kernel_rfl) ?_
          refine then_norm ?_
          refine w_ret ?_
          refine then_ret ?_
          refine block_ret ?_
          refine then_ret ?_
          refine loop_ret ?_
          refine block_ret ?_
          refine then_ret ?_
          exact body_ret (vs := [(.agg [.empty, .empty, .empty, .empty, .empty]), (.agg [(.int .i64 r54), (.int .i64 r55)])]) _ (by kernel_rfl) rfl h
        · replace h := h.2 (is_ne.f hc)
          refine w_skip ?_
          refine then_norm ?_
          refine w_run [0, 1] ?_
          refine t_upd true 5 0 [q24, q25, q26, q27, q28] (.agg [r40, r41, r42, r43, r44]) [r40, r41, r42, r43, r44] [r40, r41, r42, r43, r44] H48 (by kernel_rfl) rfl (all_c hs49.2 (all_c hs50.2 (all_c hs51.2 (all_c hs52.2 (all_c hs53.2 all_n))))) ⟨rfl, Nat.le_of_ble_eq_true (by kernel_rfl), rfl⟩ ?_
          refine t_done [(.int .i64 window0), events1, (.agg [v17, v18, v19, v20, v21]), (.agg [(.int .i64 v22), (.int .i64 v23)]), (.bool ((decide (window0 < 1)) || (decide (window0 > 4)))), (.agg [r40, r41, r42, r43, r44]), (.bool (decide ((len9 : Int) > 40))), (.int .i64 i29), (.bool (decide (i29 < (len35 : Int)))), (.int .i64 r45), (.bool ((r45) != 0)), (.agg [r40, r41, r42, r43, r44])] H48 (by kernel_rfl) ?_
          refine block_norm ?_
          refine then_norm ?_
          refine w_run [0, 0, 0] ?_
          refine t_done [(.int .i64 window0), events1, (.agg [v17, v18, v19, v20, v21]), (.agg [(.int .i64 v22), (.int .i64 v23)]), (.bool ((decide (window0 < 1)) || (decide (window0 > 4)))), (.agg [r40, r41, r42, r43, r44]), (.bool (decide ((len9 : Int) > 40))), (.int .i64 (IntKind.wrap .i64 (i29 + 1))), (.bool (decide (i29 < (len35 : Int)))), (.int .i64 r45), (.bool ((r45) != 0)), (.agg [r40, r41, r42, r43, r44])] H48 (by kernel_rfl) ?_
          obtain ⟨m', hm, h⟩ := h
          refine loop_norm ⟨m', hm, _, _, _, _, _, _, _, _, _, _, _, _, _, _, _, _, _, rfl, h⟩
      · replace h := h.2 (is_dec.f hc)
        refine w_exit ?_
        refine then_exit ?_
        refine loop_exit ?_
        refine block_exit ?_
        refine then_norm ?_
        refine w_seq ?_
        refine w_run [0, 1, 1, 1] ?_
        refine t_call false nFFault [(.int .i64 0), (.int .i64 0)] H34 (by kernel_rfl) h ?_
        clear h
        rintro _ H61 ⟨r59, r60, rfl, h⟩
        obtain ⟨hs63, h⟩ := h
        obtain ⟨hs64, h⟩ := h
        obtain ⟨hs65, h⟩ := h
        obtain ⟨hs66, h⟩ := h
        obtain ⟨hs67, h⟩ := h
        refine t_upd true 5 0 [v17, v18, v19, v20, v21] (.agg [q24, q25, q26, q27, q28]) [q24, q25, q26, q27, q28] [q24, q25, q26, q27, q28] H61 (by kernel_rfl) rfl (all_c hs63.2 (all_c hs64.2 (all_c hs65.2 (all_c hs66.2 (all_c hs67.2 all_n))))) ⟨rfl, Nat.le_of_ble_eq_true (by kernel_rfl), rfl⟩ ?_
        refine t_upd true 2 0 [(.int .i64 v22), (.int .i64 v23)] (.agg [(.int .i64 r59), (.int .i64 r60)]) [(.int .i64 r59), (.int .i64 r60)] [(.int .i64 r59), (.int .i64 r60)] H61 (by kernel_rfl) rfl (all_c rfl (all_c rfl all_n)) ⟨rfl, Nat.le_of_ble_eq_true (by kernel_rfl), rfl⟩ ?_
        refine t_done [(.int .i64 window0), events1, (.agg [q24, q25, q26, q27, q28]), (.agg [(.int .i64 r59), (.int .i64 r60)]), (.bool ((decide (window0 < 1)) || (decide (window0 > 4)))), (.agg [q24, q25, q26, q27, q28]), (.bool (decide ((len9 : Int) > 40))), (.int .i64 i29), (.bool (decide (i29 < (len35 : Int)))), d31, d32, d33] H61 (by kernel_rfl) ?_
        refine then_norm ?_
        refine w_ret ?_
        exact body_ret (vs := [(.agg [q24, q25, q26, q27, q28]), (.agg [(.int .i64 r59), (.int .i64 r60)])]) _ (by kernel_rfl) rfl h

def rf_FEqualQueues (nFEqualInts : Nat) : RFunc := ⟨2, 11, [.var 2],
 ((.seq (.ops [⟨.tomb 1 (.var 0), none, (some 3), true⟩, ⟨.tomb 1 (.var 1), none, (some 4), true⟩, ⟨.move (.k (.bool false)), none, (some 2), true⟩])
 ((.seq ((.seq (.ops [o1 (.field 0 none (.var 3)), o1 (.field 1 none (.var 3)), o1 (.field 0 none (.var 4)), o1 (.field 1 none (.var 4)), o1 (.callS nFEqualInts [(.loc 1), (.loc 3)]), o1 (.un .not (.loc 4)), o1 (.move (.loc 5)), o1 (.field 0 none (.var 3)), o1 (.field 2 none (.var 3)), o1 (.field 0 none (.var 4)), o1 (.field 2 none (.var 4)), ⟨.callS nFEqualInts [(.loc 8), (.loc 10)], (some (6, false)), none, true⟩, ⟨.un .not (.loc 11), (some (6, false)), none, true⟩, o1 (.pick (.loc 6) (.k (.bool true)) (.loc 12)), o1 (.move (.loc 13)), o1 (.field 0 none (.var 3)), o1 (.field 0 none (.var 3)), o1 (.len (.loc 16)), o1 (.field 0 none (.var 4)), o1 (.field 0 none (.var 4)), o1 (.len (.loc 19)), o1 (.bin .neq .no (.loc 17) (.loc 20)), ⟨.pick (.loc 14) (.k (.bool true)) (.loc 21), none, (some 5), true⟩])
 (.cond (.var 5) ((.seq (.ops [⟨.move (.k (.bool false)), none, (some 2), true⟩])
 (.ret))) (.skip))))
 ((.seq ((.seq (.ops [⟨.move (.k (.int .i64 0)), none, (some 6), true⟩])
 (.block 0 (.loop ((.seq ((.seq (.ops [o1 (.move (.var 6)), o1 (.field 0 none (.var 3)), o1 (.field 0 none (.var 3)), o1 (.len (.loc 2)), ⟨.bin .lss .no (.loc 0) (.loc 3), none, (some 7), true⟩])
 (.cond (.var 7) (.skip) (.exit 0))))
 ((.seq (.block 1 ((.seq (.ops [o1 (.field 0 none (.var 3)), o1 (.field 0 none (.var 3)), o1 (.move (.var 6)), o1 (.indexAddr 6 (.loc 1) (.loc 2)), o1 (.load (some 6) (.loc 3)), ⟨.tomb 1 (.k (.agg [.int .i64 0, .int .i64 0, .bool false, .bool false, .bool false, .empty])), none, (some 8), true⟩, ⟨.upd 6 0 (.loc 5) (.loc 4), none, (some 8), true⟩])
 ((.seq (.ops [o1 (.field 0 none (.var 4)), o1 (.field 0 none (.var 4)), o1 (.move (.var 6)), o1 (.indexAddr 6 (.loc 1) (.loc 2)), o1 (.load (some 6) (.loc 3)), ⟨.tomb 1 (.k (.agg [.int .i64 0, .int .i64 0, .bool false, .bool false, .bool false, .empty])), none, (some 9), true⟩, ⟨.upd 6 0 (.loc 5) (.loc 4), none, (some 9), true⟩])
 ((.seq (.ops [o1 (.field 0 none (.var 8)), o1 (.field 0 none (.var 8)), o1 (.field 0 none (.var 9)), o1 (.field 0 none (.var 9)), o1 (.bin .neq .no (.loc 1) (.loc 3)), o1 (.move (.loc 4)), o1 (.field 0 none (.var 8)), o1 (.field 1 none (.var 8)), o1 (.field 0 none (.var 9)), o1 (.field 1 none (.var 9)), o1 (.bin .neq .no (.loc 7) (.loc 9)), o1 (.pick (.loc 5) (.k (.bool true)) (.loc 10)), o1 (.move (.loc 11)), o1 (.field 0 none (.var 8)), o1 (.field 2 none (.var 8)), o1 (.field 0 none (.var 9)), o1 (.field 2 none (.var 9)), o1 (.bin .neq .bool (.loc 14) (.loc 16)), o1 (.pick (.loc 12) (.k (.bool true)) (.loc 17)), o1 (.move (.loc 18)), o1 (.field 0 none (.var 8)), o1 (.field 3 none (.var 8)), o1 (.field 0 none (.var 9)), o1 (.field 3 none (.var 9)), o1 (.bin .neq .bool (.loc 21) (.loc 23)), o1 (.pick (.loc 19) (.k (.bool true)) (.loc 24)), o1 (.move (.loc 25)), o1 (.field 0 none (.var 8)), o1 (.field 4 none (.var 8)), o1 (.field 0 none (.var 9)), o1 (.field 4 none (.var 9)), o1 (.bin .neq .bool (.loc 28) (.loc 30)), o1 (.pick (.loc 26) (.k (.bool true)) (.loc 31)), o1 (.move (.loc 32)), o1 (.field 0 none (.var 8)), o1 (.field 5 none (.var 8)), o1 (.field 0 none (.var 9)), o1 (.field 5 none (.var 9)), ⟨.callS nFEqualInts [(.loc 35), (.loc 37)], (some (33, false)), none, true⟩, ⟨.un .not (.loc 38), (some (33, false)), none, true⟩, ⟨.pick (.loc 33) (.k (.bool true)) (.loc 39), none, (some 10), true⟩])
 (.cond (.var 10) ((.seq (.ops [⟨.move (.k (.bool false)), none, (some 2), true⟩])
 (.ret))) (.skip)))))))))
 (.ops [o1 (.move (.var 6)), o1 (.bin .add .no (.loc 0) (.k (.int .i64 1))), ⟨.move (.loc 1), none, (some 6), true⟩])))))))))
 ((.seq (.ops [⟨.move (.k (.bool true)), none, (some 2), true⟩])
 (.ret))))))))), none⟩
theorem v_FEqualQueues {F : Nat → Option RFunc} {me nFEqualInts : Nat} (hF : F me = some (rf_FEqualQueues nFEqualInts)) {fl : Nat} {H : Heap} {Q : AV → Heap → Prop} (a0 : AV) (a1 : AV) (a2 : AV) (b3 : AV) (b4 : AV) (b5 : AV)
  (h : ∀ (H6 : Heap), Dead1 H 1 H6 → ∀ (H7 : Heap), Dead1 H6 1 H7 → Ret F fl nFEqualInts [a1, b4] H7 (fun v10 H9 => ∃ (r8 : Bool), v10 = (.bool r8) ∧ ((¬(r8 = true)) → ∃ len49 : Nat, lenA a0 = some len49 ∧ ∃ len50 : Nat, lenA b3 = some len50 ∧ Q (.bool false) H9) ∧ (¬(¬(r8 = true)) → Ret F fl nFEqualInts [a2, b5] H9 (fun v13 H12 => ∃ (r11 : Bool), v13 = (.bool r11) ∧ ∃ len14 : Nat, lenA a0 = some len14 ∧ ∃ len15 : Nat, lenA b3 = some len15 ∧ ((((¬(r11 = true)) ∨ ((len14 : Int) ≠ (len15 : Int)))) → Q (.bool false) H12) ∧ (¬(((¬(r11 = true)) ∨ ((len14 : Int) ≠ (len15 : Int)))) → ∃ (J16 : Nat → Int → Heap → Prop) (k17 : Nat), J16 k17 0 H12 ∧ (∀ (m18 : Nat) (i20 : Int) (H25 : Heap), J16 m18 i20 H25 → ∃ len26 : Nat, lenA a0 = some len26 ∧ ((i20 < (len26 : Int)) → ∃ (e27 : Int) (e28 : Int) (e29 : Bool) (e30 : Bool) (e31 : Bool) (e32 : AV), getA H25 6 (some 6) a0 i20 0 = some (.agg [(.int .i64 e27), (.int .i64 e28), (.bool e29), (.bool e30), (.bool e31), e32]) ∧ ∀ (H34 : Heap), Dead1 H25 1 H34 → Scal e32 ∧ ∃ (e36 : Int) (e37 : Int) (e38 : Bool) (e39 : Bool) (e40 : Bool) (e41 : AV), getA H34 6 (some 6) b3 i20 0 = some (.agg [(.int .i64 e36), (.int .i64 e37), (.bool e38), (.bool e39), (.bool e40), e41]) ∧ ∀ (H43 : Heap), Dead1 H34 1 H43 → Scal e41 ∧ ((((((((((e27 ≠ e36) ∨ (e28 ≠ e37))) ∨ (¬(e29 = e38)))) ∨ (¬(e30 = e39)))) ∨ (¬(e31 = e40)))) → Q (.bool false) H43) ∧ (¬(((((((((e27 ≠ e36) ∨ (e28 ≠ e37))) ∨ (¬(e29 = e38)))) ∨ (¬(e30 = e39)))) ∨ (¬(e31 = e40)))) → Ret F fl nFEqualInts [e32, e41] H43 (fun v47 H46 => ∃ (r45 : Bool), v47 = (.bool r45) ∧ ((¬(r45 = true)) → Q (.bool false) H46) ∧ (¬(¬(r45 = true)) → ∃ m48 : Nat, m48 < m18 ∧ J16 m48 (IntKind.wrap .i64 (i20 + 1)) H46)))) ∧ (¬(i20 < (len26 : Int)) → Q (.bool true) H25))))))) : Ret F fl me [(.agg [a0, a1, a2]), (.agg [b3, b4, b5])] H Q := by
  refine ret_intro hF rfl ?_
  refine w_seq ?_
  refine w_run [1, 1, 0] ?_
  obtain ⟨H6, hb⟩ : ∃ H', Dead1 H 1 H' := ⟨_, ⟨rfl⟩⟩
  replace h := h H6 hb
  refine t_tomb true 1 (.agg [a0, a1, a2]) [a0, a1, a2] H6 H (by kernel_rfl) rfl hb ?_
  obtain ⟨H7, hb⟩ : ∃ H', Dead1 H6 1 H' := ⟨_, ⟨rfl⟩⟩
  replace h := h H7 hb
  refine t_tomb true 1 (.agg [b3, b4, b5]) [b3, b4, b5] H7 H6 (by kernel_rfl) rfl hb ?_
  refine t_done [(.agg [a0, a1, a2]), (.agg [b3, b4, b5]), (.bool false), (.agg [a0, a1, a2]), (.agg [b3, b4, b5]), .undef, .undef, .undef, .undef, .undef, .undef] H7 (by kernel_rfl) ?_
  refine then_norm ?_
  refine w_seq ?_
  refine w_seq ?_
  refine w_run [0, 0, 0, 0, 1, 0, 0, 0, 0, 0, 0, 3, 2, 0, 0, 0, 0, 1, 0, 0, 1, 0, 0] ?_
  refine t_call true nFEqualInts [a1, b4] H7 (by kernel_rfl) h ?_
  clear h
  rintro _ H9 ⟨r8, rfl, h⟩
  refine t_gd (!r8) false (by kernel_rfl) (fun hc => ?_) (fun hc => ?_)
  · replace h := h.2 ((is_not is_raw).f hc)
    refine t_call true nFEqualInts [a2, b5] H9 (by kernel_rfl) h ?_
    clear h
    rintro _ H12 ⟨r11, rfl, h⟩
    refine t_gd false false (by kernel_rfl) (fun _ => ?_) (fun hn => by cases hn)
    obtain ⟨len14, hl, h⟩ := h
    refine t_len true a0 len14 H12 (by kernel_rfl) hl ?_
    obtain ⟨len15, hl, h⟩ := h
    refine t_len true b3 len15 H12 (by kernel_rfl) hl ?_
    refine t_done [(.agg [a0, a1, a2]), (.agg [b3, b4, b5]), (.bool false), (.agg [a0, a1, a2]), (.agg [b3, b4, b5]), (.bool ((!r11) || (((len14 : Int)) != (len15 : Int)))), .undef, .undef, .undef, .undef, .undef] H12 (by kernel_rfl) ?_
    refine then_norm ?_
    refine w_cond (t := ((!r11) || (((len14 : Int)) != (len15 : Int)))) rfl (fun hc => ?_) (fun hc => ?_)
    · replace h := h.1 ((is_or (is_not is_raw) is_ne).t hc)
      refine w_seq ?_
      refine w_run [0] ?_
      refine t_done [(.agg [a0, a1, a2]), (.agg [b3, b4, b5]), (.bool false), (.agg [a0, a1, a2]), (.agg [b3, b4, b5]), (.bool ((!r11) || (((len14 : Int)) != (len15 : Int)))), .undef, .undef, .undef, .undef, .undef] H12 (by kernel_rfl) ?_
      refine then_norm ?_
      refine w_ret ?_
      refine then_ret ?_
      exact body_ret (vs := [(.bool false)]) _ (by kernel_rfl) rfl h
    · replace h := h.2 ((is_or (is_not is_raw) is_ne).f hc)
      refine w_skip ?_
      refine then_norm ?_
      refine w_seq ?_
      refine w_seq ?_
      refine w_run [0] ?_
      refine t_done [(.agg [a0, a1, a2]), (.agg [b3, b4, b5]), (.bool false), (.agg [a0, a1, a2]), (.agg [b3, b4, b5]), (.bool ((!r11) || (((len14 : Int)) != (len15 : Int)))), (.int .i64 0), .undef, .undef, .undef, .undef] H12 (by kernel_rfl) ?_
      refine then_norm ?_
      refine w_block ?_
      obtain ⟨J16, k17, h0, h⟩ := h
      refine w_loop (I := fun mI EI HI => ∃ (d19 : AV) (i20 : Int) (d21 : AV) (d22 : AV) (d23 : AV) (d24 : AV), EI = [(.agg [a0, a1, a2]), (.agg [b3, b4, b5]), d19, (.agg [a0, a1, a2]), (.agg [b3, b4, b5]), (.bool ((!r11) || (((len14 : Int)) != (len15 : Int)))), (.int .i64 i20), d21, d22, d23, d24] ∧ J16 mI i20 HI) ?_ k17 ⟨_, _, _, _, _, _, rfl, h0⟩
      clear h0
      rintro m18 EI H25 ⟨d19, i20, d21, d22, d23, d24, rfl, hJ⟩
      replace h := h m18 i20 H25 hJ
      clear hJ
      refine w_seq ?_
      refine w_seq ?_
      refine w_run [0, 0, 0, 1, 0] ?_
      obtain ⟨len26, hl, h⟩ := h
      refine t_len true a0 len26 H25 (by kernel_rfl) hl ?_
      refine t_done [(.agg [a0, a1, a2]), (.agg [b3, b4, b5]), d19, (.agg [a0, a1, a2]), (.agg [b3, b4, b5]), (.bool ((!r11) || (((len14 : Int)) != (len15 : Int)))), (.int .i64 i20), (.bool (decide (i20 < (len26 : Int)))), d22, d23, d24] H25 (by kernel_rfl) ?_
      refine then_norm ?_
      refine w_cond (t := (decide (i20 < (len26 : Int)))) rfl (fun hc => ?_) (fun hc => ?_)
      · replace h := h.1 (is_dec.t hc)
        refine w_skip ?_
        refine then_norm ?_
        refine w_seq ?_
        refine w_block ?_
        refine w_seq ?_
        refine w_run [0, 0, 0, 1, 1, 1, 1] ?_
        obtain ⟨e27, e28, e29, e30, e31, e32, hg33, h⟩ := h
        refine t_idxG true 6 a0 .i64 i20 H25 (by kernel_rfl) hg33 ?_
        refine t_loadG true (some 6) 6 a0 i20 0 (.agg [(.int .i64 e27), (.int .i64 e28), (.bool e29), (.bool e30), (.bool e31), e32]) H25 (by kernel_rfl) hg33 ?_
        obtain ⟨H34, hb⟩ : ∃ H', Dead1 H25 1 H' := ⟨_, ⟨rfl⟩⟩
        replace h := h H34 hb
        refine t_tomb true 1 (.agg [(.int .i64 0), (.int .i64 0), (.bool false), (.bool false), (.bool false), .empty]) [(.int .i64 0), (.int .i64 0), (.bool false), (.bool false), (.bool false), .empty] H34 H25 (by kernel_rfl) rfl hb ?_
        obtain ⟨hs35, h⟩ := h
        refine t_upd true 6 0 [(.int .i64 0), (.int .i64 0), (.bool false), (.bool false), (.bool false), .empty] (.agg [(.int .i64 e27), (.int .i64 e28), (.bool e29), (.bool e30), (.bool e31), e32]) [(.int .i64 e27), (.int .i64 e28), (.bool e29), (.bool e30), (.bool e31), e32] [(.int .i64 e27), (.int .i64 e28), (.bool e29), (.bool e30), (.bool e31), e32] H34 (by kernel_rfl) rfl (all_c rfl (all_c rfl (all_c rfl (all_c rfl (all_c rfl (all_c hs35.2 all_n)))))) ⟨rfl, Nat.le_of_ble_eq_true (by kernel_rfl), rfl⟩ ?_
        refine t_done [(.agg [a0, a1, a2]), (.agg [b3, b4, b5]), d19, (.agg [a0, a1, a2]), (.agg [b3, b4, b5]), (.bool ((!r11) || (((len14 : Int)) != (len15 : Int)))), (.int .i64 i20), (.bool (decide (i20 < (len26 : Int)))), (.agg [(.int .i64 e27), (.int .i64 e28), (.bool e29), (.bool e30), (.bool e31), e32]), d23, d24] H34 (by kernel_rfl) ?_
        refine then_norm ?_
        refine w_seq ?_
        refine w_run [0, 0, 0, 1, 1, 1, 1] ?_
        obtain ⟨e36, e37, e38, e39, e40, e41, hg42, h⟩ := h
        refine t_idxG true 6 b3 .i64 i20 H34 (by kernel_rfl) hg42 ?_
        refine t_loadG true (some 6) 6 b3 i20 0 (.agg [(.int .i64 e36), (.int .i64 e37), (.bool e38), (.bool e39), (.bool e40), e41]) H34 (by kernel_rfl) hg42 ?_
        obtain ⟨H43, hb⟩ : ∃ H', Dead1 H34 1 H' := ⟨_, ⟨rfl⟩⟩
        replace h := h H43 hb
        refine t_tomb true 1 (.agg [(.int .i64 0), (.int .i64 0), (.bool false), (.bool false), (.bool false), .empty]) [(.int .i64 0), (.int .i64 0), (.bool false), (.bool false), (.bool false), .empty] H43 H34 (by kernel_rfl) rfl hb ?_
        obtain ⟨hs44, h⟩ := h
        refine t_upd true 6 0 [(.int .i64 0), (.int .i64 0), (.bool false), (.bool false), (.bool false), .empty] (.agg [(.int .i64 e36), (.int .i64 e37), (.bool e38), (.bool e39), (.bool e40), e41]) [(.int .i64 e36), (.int .i64 e37), (.bool e38), (.bool e39), (.bool e40), e41] [(.int .i64 e36), (.int .i64 e37), (.bool e38), (.bool e39), (.bool e40), e41] H43 (by kernel_rfl) rfl (all_c rfl (all_c rfl (all_c rfl (all_c rfl (all_c rfl (all_c hs44.2 all_n)))))) ⟨rfl, Nat.le_of_ble_eq_true (by kernel_rfl), rfl⟩ ?_
        refine t_done [(.agg [a0, a1, a2]), (.agg [b3, b4, b5]), d19, (.agg [a0, a1, a2]), (.agg [b3, b4, b5]), (.bool ((!r11) || (((len14 : Int)) != (len15 : Int)))), (.int .i64 i20), (.bool (decide (i20 < (len26 : Int)))), (.agg [(.int .i64 e27), (.int .i64 e28), (.bool e29), (.bool e30), (.bool e31), e32]), (.agg [(.int .i64 e36), (.int .i64 e37), (.bool e38), (.bool e39), (.bool e40), e41]), d24] H43 (by kernel_rfl) ?_
        refine then_norm ?_
        refine w_seq ?_
        refine w_run [0, 0, 0, 0, 0, 0, 0, 0, 0, 0, 0, 0, 0, 0, 0, 0, 0, 0, 0, 0, 0, 0, 0, 0, 0, 0, 0, 0, 0, 0, 0, 0, 0, 0, 0, 0, 0, 0, 3, 2, 0] ?_
        refine t_gd ((((((e27) != e36) || ((e28) != e37)) || (!(e29 == e38))) || (!(e30 == e39))) || (!(e31 == e40))) false (by kernel_rfl) (fun hc => ?_) (fun hc => ?_)
        · replace h := h.2 ((is_or (is_or (is_or (is_or is_ne is_ne) (is_not is_beq)) (is_not is_beq)) (is_not is_beq)).f hc)
          refine t_call true nFEqualInts [e32, e41] H43 (by kernel_rfl) h ?_
          clear h
          rintro _ H46 ⟨r45, rfl, h⟩
          refine t_gd false false (by kernel_rfl) (fun _ => ?_) (fun hn => by cases hn)
          refine t_done [(.agg [a0, a1, a2]), (.agg [b3, b4, b5]), d19, (.agg [a0, a1, a2]), (.agg [b3, b4, b5]), (.bool ((!r11) || (((len14 : Int)) != (len15 : Int)))), (.int .i64 i20), (.bool (decide (i20 < (len26 : Int)))), (.agg [(.int .i64 e27), (.int .i64 e28), (.bool e29), (.bool e30), (.bool e31), e32]), (.agg [(.int .i64 e36), (.int .i64 e37), (.bool e38), (.bool e39), (.bool e40), e41]), (.bool (!r45))] H46 (by kernel_rfl) ?_
          refine then_norm ?_
          refine w_cond (t := (!r45)) rfl (fun hc => ?_) (fun hc => ?_)
          · replace h := h.1 ((is_not is_raw).t hc)
            refine w_seq ?_
            refine w_run [0] ?_
            refine t_done [(.agg [a0, a1, a2]), (.agg [b3, b4, b5]), (.bool false), (.agg [a0, a1, a2]), (.agg [b3, b4, b5]), (.bool ((!r11) || (((len14 : Int)) != (len15 : Int)))), (.int .i64 i20), (.bool (decide (i20 < (len26 : Int)))), (.agg [(.int .i64 e27), (.int .i64 e28), (.bool e29), (.bool e30), (.bool e31), e32]), (.agg [(.int .i64 e36), (.int .i64 e37), (.bool e38), (.bool e39), (.bool e40), e41]), (.bool (!r45))] H46 (by kernel_rfl) ?_
            refine then_norm ?_
            refine w_ret ?_
            refine block_ret ?_
            refine then_ret ?_
            refine loop_ret ?_
            refine block_ret ?_
            refine then_ret ?_
            exact body_ret (vs := [(.bool false)]) _ (by kernel_rfl) rfl h
          · replace h := h.2 ((is_not is_raw).f hc)
            refine w_skip ?_
            refine block_norm ?_
            refine then_norm ?_
            refine w_run [0, 0, 0] ?_
            refine t_done [(.agg [a0, a1, a2]), (.agg [b3, b4, b5]), d19, (.agg [a0, a1, a2]), (.agg [b3, b4, b5]), (.bool ((!r11) || (((len14 : Int)) != (len15 : Int)))), (.int .i64 (IntKind.wrap .i64 (i20 + 1))), (.bool (decide (i20 < (len26 : Int)))), (.agg [(.int .i64 e27), (.int .i64 e28), (.bool e29), (.bool e30), (.bool e31), e32]), (.agg [(.int .i64 e36), (.int .i64 e37), (.bool e38), (.bool e39), (.bool e40), e41]), (.bool (!r45))] H46 (by kernel_rfl) ?_
            obtain ⟨m', hm, h⟩ := h
            refine loop_norm ⟨m', hm, _, _, _, _, _, _, rfl, h⟩
        · replace h := h.1 ((is_or (is_or (is_or (is_or is_ne is_ne) (is_not is_beq)) (is_not is_beq)) (is_not is_beq)).t hc)
          refine t_gd true false (by kernel_rfl) (fun hn => by cases hn) (fun _ => ?_)
          refine t_done [(.agg [a0, a1, a2]), (.agg [b3, b4, b5]), d19, (.agg [a0, a1, a2]), (.agg [b3, b4, b5]), (.bool ((!r11) || (((len14 : Int)) != (len15 : Int)))), (.int .i64 i20), (.bool (decide (i20 < (len26 : Int)))), (.agg [(.int .i64 e27), (.int .i64 e28), (.bool e29), (.bool e30), (.bool e31), e32]), (.agg [(.int .i64 e36), (.int .i64 e37), (.bool e38), (.bool e39), (.bool e40), e41]), (.bool true)] H43 (by kernel_rfl) ?_
          refine then_norm ?_
          refine w_cond (t := true) rfl (fun _ => ?_) (fun hc => by cases hc)
          refine w_seq ?_
          refine w_run [0] ?_
          refine t_done [(.agg [a0, a1, a2]), (.agg [b3, b4, b5]), (.bool false), (.agg [a0, a1, a2]), (.agg [b3, b4, b5]), (.bool ((!r11) || (((len14 : Int)) != (len15 : Int)))), (.int .i64 i20), (.bool (decide (i20 < (len26 : Int)))), (.agg [(.int .i64 e27), (.int .i64 e28), (.bool e29), (.bool e30), (.bool e31), e32]), (.agg [(.int .i64 e36), (.int .i64 e37), (.bool e38), (.bool e39), (.bool e40), e41]), (.bool true)] H43 (by kernel_rfl) ?_
          refine then_norm ?_
          refine w_ret ?_
          refine block_ret ?_
          refine then_ret ?_
          refine loop_ret ?_
          refine block_ret ?_
          refine then_ret ?_
          exact body_ret (vs := [(.bool false)]) _ (by kernel_rfl) rfl h
      · replace h := h.2 (is_dec.f hc)
        refine w_exit ?_
        refine then_exit ?_
        refine loop_exit ?_
        refine block_exit ?_
        refine then_norm ?_
        refine w_seq ?_
        refine w_run [0] ?_
        refine t_done [(.agg [a0, a1, a2]), (.agg [b3, b4, b5]), (.bool true), (.agg [a0, a1, a2]), (.agg [b3, b4, b5]), (.bool ((!r11) || (((len14 : Int)) != (len15 : Int)))), (.int .i64 i20), (.bool (decide (i20 < (len26 : Int)))), d22, d23, d24] H25 (by kernel_rfl) ?_
        refine then_norm ?_
        refine w_ret ?_
        exact body_ret (vs := [(.bool true)]) _ (by kernel_rfl) rfl h
  · replace h := h.1 ((is_not is_raw).t hc)
    refine t_gd true false (by kernel_rfl) (fun hn => by cases hn) (fun _ => ?_)
    obtain ⟨len49, hl, h⟩ := h
    refine t_len true a0 len49 H9 (by kernel_rfl) hl ?_
    obtain ⟨len50, hl, h⟩ := h
    refine t_len true b3 len50 H9 (by kernel_rfl) hl ?_
    refine t_done [(.agg [a0, a1, a2]), (.agg [b3, b4, b5]), (.bool false), (.agg [a0, a1, a2]), (.agg [b3, b4, b5]), (.bool true), .undef, .undef, .undef, .undef, .undef] H9 (by kernel_rfl) ?_
    refine then_norm ?_
    refine w_cond (t := true) rfl (fun _ => ?_) (fun hc => by cases hc)
    refine w_seq ?_
    refine w_run [0] ?_
    refine t_done [(.agg [a0, a1, a2]), (.agg [b3, b4, b5]), (.bool false), (.agg [a0, a1, a2]), (.agg [b3, b4, b5]), (.bool true), .undef, .undef, .undef, .undef, .undef] H9 (by kernel_rfl) ?_
    refine then_norm ?_
    refine w_ret ?_
    refine then_ret ?_
    exact body_ret (vs := [(.bool false)]) _ (by kernel_rfl) rfl h

end Go.RM

