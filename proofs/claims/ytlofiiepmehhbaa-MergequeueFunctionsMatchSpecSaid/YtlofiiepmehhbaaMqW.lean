import Derived.Test.YtlofiiepmehhbaaRmWp
/-
  Functions of the program as the abstract machine runs them, and what must be shown of a run: printed by RmPrint.
-/
namespace Go.RM
set_option linter.unusedVariables false
set_option maxRecDepth 4000
def rf_slices_IndexFunc__api_QueueEntry_api_QueueEntry : RFunc := ⟨2, 8, [.var 2],
 ((.seq (.ops [⟨.move (.k (.int .i64 0)), none, (some 2), true⟩])
 ((.seq ((.seq (.ops [o1 (.move (.var 0)), ⟨.len (.loc 0), none, (some 4), true⟩, ⟨.move (.k (.int .i64 0)), none, (some 3), true⟩])
 (.block 0 (.loop ((.seq (.ops [⟨.bin .lss .no (.var 3) (.var 4), none, (some 5), true⟩])
 ((.seq (.cond (.var 5) (.skip) (.exit 0))
 ((.seq (.block 1 ((.seq (.ops [o1 (.move (.var 3)), ⟨.move (.loc 0), none, (some 6), true⟩])
 ((.seq (.ops [o1 (.move (.var 1)), o1 (.move (.var 0)), o1 (.move (.var 6)), o1 (.indexAddr 6 (.loc 1) (.loc 2)), o1 (.load (some 6) (.loc 3)), ⟨.call (.loc 0) [(.loc 4)], none, (some 7), true⟩])
 (.cond (.var 7) ((.seq (.ops [o1 (.move (.var 6)), ⟨.move (.loc 0), none, (some 2), true⟩])
 (.ret))) (.skip)))))))
 (.ops [o1 (.bin .add .no (.var 3) (.k (.int .i64 1))), ⟨.move (.loc 0), none, (some 3), true⟩])))))))))))
 ((.seq (.ops [⟨.move (.k (.int .i64 (-1))), none, (some 2), true⟩])
 (.ret))))))), none⟩
theorem v_slices_IndexFunc__api_QueueEntry_api_QueueEntry {F : Nat → Option RFunc} {me : Nat} (hF : F me = some (rf_slices_IndexFunc__api_QueueEntry_api_QueueEntry )) {fl : Nat} {H : Heap} {Q : AV → Heap → Prop} (s0 : AV) (fg1 : Nat) (fc2 : List AV)
  (h : ∃ len3 : Nat, lenA s0 = some len3 ∧ ∃ (J4 : Nat → Int → Heap → Prop) (k5 : Nat), J4 k5 0 H ∧ (∀ (m6 : Nat) (v8 : Int) (H12 : Heap), J4 m6 v8 H12 → ((v8 < (len3 : Int)) → ∃ (e13 : Int) (e14 : Int) (e15 : Bool) (e16 : Bool) (e17 : Bool) (e18 : AV), getA H12 6 (some 6) s0 v8 0 = some (.agg [(.int .i64 e13), (.int .i64 e14), (.bool e15), (.bool e16), (.bool e17), e18]) ∧ Ret F fl fg1 (([(.agg [(.int .i64 e13), (.int .i64 e14), (.bool e15), (.bool e16), (.bool e17), e18])] : List AV) ++ fc2) H12 (fun v22 H21 => ∃ (r20 : Bool), v22 = (.bool r20) ∧ ((r20 = true) → Q (.int .i64 v8) H21) ∧ (¬(r20 = true) → ∃ m23 : Nat, m23 < m6 ∧ J4 m23 (IntKind.wrap .i64 (v8 + 1)) H21))) ∧ (¬(v8 < (len3 : Int)) → Q (.int .i64 (-1)) H12))) : Ret F fl me [s0, (.func fg1 fc2)] H Q := by
  refine ret_intro hF rfl ?_
  refine w_seq ?_
  refine w_run [0] ?_
  refine t_done [s0, (.func fg1 fc2), (.int .i64 0), .undef, .undef, .undef, .undef, .undef] H (by kernel_rfl) ?_
  refine then_norm ?_
  refine w_seq ?_
  refine w_seq ?_
  refine w_run [0, 1, 0] ?_
  obtain ⟨len3, hl, h⟩ := h
  refine t_len true s0 len3 H (by kernel_rfl) hl ?_
  refine t_done [s0, (.func fg1 fc2), (.int .i64 0), (.int .i64 0), (.int .i64 (len3 : Int)), .undef, .undef, .undef] H (by kernel_rfl) ?_
  refine then_norm ?_
  refine w_block ?_
  obtain ⟨J4, k5, h0, h⟩ := h
  refine w_loop (I := fun mI EI HI => ∃ (d7 : AV) (v8 : Int) (d9 : AV) (d10 : AV) (d11 : AV), EI = [s0, (.func fg1 fc2), d7, (.int .i64 v8), (.int .i64 (len3 : Int)), d9, d10, d11] ∧ J4 mI v8 HI) ?_ k5 ⟨_, _, _, _, _, rfl, h0⟩
  clear h0
  rintro m6 EI H12 ⟨d7, v8, d9, d10, d11, rfl, hJ⟩
  replace h := h m6 v8 H12 hJ
  clear hJ
  refine w_seq ?_
  refine w_run [0] ?_
  refine t_done [s0, (.func fg1 fc2), d7, (.int .i64 v8), (.int .i64 (len3 : Int)), (.bool (decide (v8 < (len3 : Int)))), d10, d11] H12 (by kernel_rfl) ?_
  refine then_norm ?_
  refine w_seq ?_
  refine w_cond (t := (decide (v8 < (len3 : Int)))) rfl (fun hc => ?_) (fun hc => ?_)
  · replace h := h.1 (is_dec.t hc)
    refine w_skip ?_
    refine then_norm ?_
    refine w_seq ?_
    refine w_block ?_
    refine w_seq ?_
    refine w_run [0, 0] ?_
    refine t_done [s0, (.func fg1 fc2), d7, (.int .i64 v8), (.int .i64 (len3 : Int)), (.bool (decide (v8 < (len3 : Int)))), (.int .i64 v8), d11] H12 (by kernel_rfl) ?_
    refine then_norm ?_
    refine w_seq ?_
    refine w_run [0, 0, 0, 1, 1, 1] ?_
    obtain ⟨e13, e14, e15, e16, e17, e18, hg19, h⟩ := h
    refine t_idxG true 6 s0 .i64 v8 H12 (by kernel_rfl) hg19 ?_
    refine t_loadG true (some 6) 6 s0 v8 0 (.agg [(.int .i64 e13), (.int .i64 e14), (.bool e15), (.bool e16), (.bool e17), e18]) H12 (by kernel_rfl) hg19 ?_
    refine t_call true fg1 (([(.agg [(.int .i64 e13), (.int .i64 e14), (.bool e15), (.bool e16), (.bool e17), e18])] : List AV) ++ fc2) H12 (by kernel_rfl) h ?_
    clear h
    rintro _ H21 ⟨r20, rfl, h⟩
    refine t_done [s0, (.func fg1 fc2), d7, (.int .i64 v8), (.int .i64 (len3 : Int)), (.bool (decide (v8 < (len3 : Int)))), (.int .i64 v8), (.bool r20)] H21 (by kernel_rfl) ?_
    refine then_norm ?_
    refine w_cond (t := r20) rfl (fun hc => ?_) (fun hc => ?_)
    · replace h := h.1 (is_raw.t hc)
      refine w_seq ?_
      refine w_run [0, 0] ?_
      refine t_done [s0, (.func fg1 fc2), (.int .i64 v8), (.int .i64 v8), (.int .i64 (len3 : Int)), (.bool (decide (v8 < (len3 : Int)))), (.int .i64 v8), (.bool r20)] H21 (by kernel_rfl) ?_
      refine then_norm ?_
      refine w_ret ?_
      refine block_ret ?_
      refine then_ret ?_
      refine loop_ret ?_
      refine block_ret ?_
      refine then_ret ?_
      exact body_ret (vs := [(.int .i64 v8)]) _ (by kernel_rfl) rfl h
    · replace h := h.2 (is_raw.f hc)
      refine w_skip ?_
      refine block_norm ?_
      refine then_norm ?_
      refine w_run [0, 0] ?_
      refine t_done [s0, (.func fg1 fc2), d7, (.int .i64 (IntKind.wrap .i64 (v8 + 1))), (.int .i64 (len3 : Int)), (.bool (decide (v8 < (len3 : Int)))), (.int .i64 v8), (.bool r20)] H21 (by kernel_rfl) ?_
      obtain ⟨m', hm, h⟩ := h
      refine loop_norm ⟨m', hm, _, _, _, _, _, rfl, h⟩
  · replace h := h.2 (is_dec.f hc)
    refine w_exit ?_
    refine then_exit ?_
    refine loop_exit ?_
    refine block_exit ?_
    refine then_norm ?_
    refine w_seq ?_
    refine w_run [0] ?_
    refine t_done [s0, (.func fg1 fc2), (.int .i64 (-1)), (.int .i64 v8), (.int .i64 (len3 : Int)), (.bool (decide (v8 < (len3 : Int)))), d10, d11] H12 (by kernel_rfl) ?_
    refine then_norm ?_
    refine w_ret ?_
    exact body_ret (vs := [(.int .i64 (-1))]) _ (by kernel_rfl) rfl h

def rf_mergequeue_Outcomex1 : RFunc := ⟨2, 4, [.var 2],
 ((.seq (.ops [⟨.tomb 1 (.var 0), none, (some 3), true⟩, ⟨.move (.k (.bool false)), none, (some 2), true⟩])
 ((.seq (.ops [o1 (.field 0 none (.var 3)), o1 (.field 0 none (.var 3)), o1 (.load none (.var 1)), o1 (.bin .eql .no (.loc 1) (.loc 2)), ⟨.move (.loc 3), none, (some 2), true⟩])
 (.ret))))), none⟩
theorem v_mergequeue_Outcomex1 {F : Nat → Option RFunc} {me : Nat} (hF : F me = some (rf_mergequeue_Outcomex1 )) {fl : Nat} {H : Heap} {Q : AV → Heap → Prop} (e0 : Int) (e1 : Int) (e2 : Bool) (e3 : Bool) (e4 : Bool) (e5 : AV) (cap6 : AV)
  (h : ∀ (H7 : Heap), Dead1 H 1 H7 → ∃ (b8 : Nat) (o9 : Nat), cap6 = .ptr b8 o9 ∧ ∃ (e10 : Int), rload H7 none b8 o9 = some (.int .i64 e10) ∧ Q (.bool ((e0) == e10)) H7) : Ret F fl me [(.agg [(.int .i64 e0), (.int .i64 e1), (.bool e2), (.bool e3), (.bool e4), e5]), cap6] H Q := by
  refine ret_intro hF rfl ?_
  refine w_seq ?_
  refine w_run [1, 0] ?_
  obtain ⟨H7, hb⟩ : ∃ H', Dead1 H 1 H' := ⟨_, ⟨rfl⟩⟩
  replace h := h H7 hb
  refine t_tomb true 1 (.agg [(.int .i64 e0), (.int .i64 e1), (.bool e2), (.bool e3), (.bool e4), e5]) [(.int .i64 e0), (.int .i64 e1), (.bool e2), (.bool e3), (.bool e4), e5] H7 H (by kernel_rfl) rfl hb ?_
  refine t_done [(.agg [(.int .i64 e0), (.int .i64 e1), (.bool e2), (.bool e3), (.bool e4), e5]), cap6, (.bool false), (.agg [(.int .i64 e0), (.int .i64 e1), (.bool e2), (.bool e3), (.bool e4), e5])] H7 (by kernel_rfl) ?_
  refine then_norm ?_
  refine w_seq ?_
  refine w_run [0, 0, 1, 0, 0] ?_
  obtain ⟨b8, o9, rfl, e10, hl, h⟩ := h
  refine t_load true none b8 o9 (.int .i64 e10) H7 (by kernel_rfl) hl ?_
  refine t_done [(.agg [(.int .i64 e0), (.int .i64 e1), (.bool e2), (.bool e3), (.bool e4), e5]), (.ptr b8 o9), (.bool ((e0) == e10)), (.agg [(.int .i64 e0), (.int .i64 e1), (.bool e2), (.bool e3), (.bool e4), e5])] H7 (by kernel_rfl) ?_
  refine then_norm ?_
  refine w_ret ?_
  exact body_ret (vs := [(.bool ((e0) == e10))]) _ (by kernel_rfl) rfl h

def rf_slices_DeleteFunc__int_int (nslices_IndexFunc__int_int : Nat) : RFunc := ⟨2, 9, [.var 2],
 ((.seq (.ops [⟨.move (.k (.empty)), none, (some 2), true⟩])
 ((.seq (.ops [o1 (.move (.var 0)), o1 (.move (.var 1)), o1 (.callS nslices_IndexFunc__int_int [(.loc 0), (.loc 1)]), ⟨.move (.loc 2), none, (some 3), true⟩])
 ((.seq ((.seq (.ops [o1 (.move (.var 3)), ⟨.bin .eql .no (.loc 0) (.k (.int .i64 (-1))), none, (some 4), true⟩])
 (.cond (.var 4) ((.seq (.ops [o1 (.move (.var 0)), ⟨.move (.loc 0), none, (some 2), true⟩])
 (.ret))) (.skip))))
 ((.seq ((.seq (.ops [o1 (.move (.var 3)), o1 (.bin .add .no (.loc 0) (.k (.int .i64 1))), ⟨.move (.loc 1), none, (some 5), true⟩])
 (.block 0 (.loop ((.seq ((.seq (.ops [o1 (.move (.var 5)), o1 (.move (.var 0)), o1 (.len (.loc 1)), ⟨.bin .lss .no (.loc 0) (.loc 2), none, (some 6), true⟩])
 (.cond (.var 6) (.skip) (.exit 0))))
 ((.seq (.block 1 ((.seq (.ops [o1 (.move (.var 0)), o1 (.move (.var 5)), o1 (.indexAddr 1 (.loc 0) (.loc 1)), o1 (.load none (.loc 2)), ⟨.move (.loc 3), none, (some 7), true⟩])
 ((.seq (.ops [o1 (.move (.var 1)), o1 (.move (.var 7)), o1 (.call (.loc 0) [(.loc 1)]), ⟨.un .not (.loc 2), none, (some 8), true⟩])
 (.cond (.var 8) ((.seq (.ops [o1 (.move (.var 0)), o1 (.move (.var 3)), o1 (.move (.var 7)), o1 (.indexAddr 1 (.loc 0) (.loc 1)), o1 (.store 1 (.loc 3) (.loc 2) [])])
 (.ops [o1 (.move (.var 3)), o1 (.bin .add .no (.loc 0) (.k (.int .i64 1))), ⟨.move (.loc 1), none, (some 3), true⟩]))) (.skip)))))))
 (.ops [o1 (.move (.var 5)), o1 (.bin .add .no (.loc 0) (.k (.int .i64 1))), ⟨.move (.loc 1), none, (some 5), true⟩])))))))))
 ((.seq (.ops [o1 (.move (.var 0)), o1 (.move (.var 3)), o1 (.slice 1 (.loc 0) (some (.loc 1)) none none), o1 (.clear 1 [.int .i64 0] (.loc 2))])
 ((.seq (.ops [o1 (.move (.var 0)), o1 (.move (.var 3)), o1 (.slice 1 (.loc 0) none (some (.loc 1)) none), ⟨.move (.loc 2), none, (some 2), true⟩])
 (.ret))))))))))))), none⟩
theorem v_slices_DeleteFunc__int_int {F : Nat → Option RFunc} {me nslices_IndexFunc__int_int : Nat} (hF : F me = some (rf_slices_DeleteFunc__int_int nslices_IndexFunc__int_int)) {fl : Nat} {H : Heap} {Q : AV → Heap → Prop} (s0 : AV) (delg1 : Nat) (delc2 : List AV)
  (h : Ret F fl nslices_IndexFunc__int_int [s0, (.func delg1 delc2)] H (fun v5 H4 => ∃ (r3 : Int), v5 = (.int .i64 r3) ∧ ((r3 = (-1)) → Q s0 H4) ∧ (¬(r3 = (-1)) → ∃ (J6 : Nat → Int → Int → Heap → Prop) (k7 : Nat), J6 k7 r3 (IntKind.wrap .i64 (r3 + 1)) H4 ∧ (∀ (m8 : Nat) (i9 : Int) (j10 : Int) (H14 : Heap), J6 m8 i9 j10 H14 → ∃ len15 : Nat, lenA s0 = some len15 ∧ ((j10 < (len15 : Int)) → ∃ (e16 : Int), getA H14 1 none s0 j10 0 = some (.int .i64 e16) ∧ Ret F fl delg1 (([(.int .i64 e16)] : List AV) ++ delc2) H14 (fun v20 H19 => ∃ (r18 : Bool), v20 = (.bool r18) ∧ ((¬(r18 = true)) → ∃ b21 o22 : Nat, ptrA 1 s0 i9 = some (b21, o22) ∧ ∃ H23 : Heap, putA fl H19 b21 o22 1 (.int .i64 e16) = some H23 ∧ ∃ m24 : Nat, m24 < m8 ∧ J6 m24 (IntKind.wrap .i64 (i9 + 1)) (IntKind.wrap .i64 (j10 + 1)) H23) ∧ (¬(¬(r18 = true)) → ∃ m25 : Nat, m25 < m8 ∧ J6 m25 i9 (IntKind.wrap .i64 (j10 + 1)) H19))) ∧ (¬(j10 < (len15 : Int)) → ∃ s26 : AV, rslice H14 1 s0 (some (.int .i64 i9)) none none = some s26 ∧ ∃ (H27 : Heap), clearA fl 1 [(.int .i64 0)] H14 s26 = some (.undef, H27) ∧ ∃ s28 : AV, rslice H27 1 s0 none (some (.int .i64 i9)) none = some s28 ∧ Q s28 H27))))) : Ret F fl me [s0, (.func delg1 delc2)] H Q := by
  refine ret_intro hF rfl ?_
  refine w_seq ?_
  refine w_run [0] ?_
  refine t_done [s0, (.func delg1 delc2), .empty, .undef, .undef, .undef, .undef, .undef, .undef] H (by kernel_rfl) ?_
  refine then_norm ?_
  refine w_seq ?_
  refine w_run [0, 0, 1, 0] ?_
  refine t_call true nslices_IndexFunc__int_int [s0, (.func delg1 delc2)] H (by kernel_rfl) h ?_
  clear h
  rintro _ H4 ⟨r3, rfl, h⟩
  refine t_done [s0, (.func delg1 delc2), .empty, (.int .i64 r3), .undef, .undef, .undef, .undef, .undef] H4 (by kernel_rfl) ?_
  refine then_norm ?_
  refine w_seq ?_
  refine w_seq ?_
  refine w_run [0, 0] ?_
  refine t_done [s0, (.func delg1 delc2), .empty, (.int .i64 r3), (.bool ((r3) == (-1))), .undef, .undef, .undef, .undef] H4 (by kernel_rfl) ?_
  refine then_norm ?_
  refine w_cond (t := ((r3) == (-1))) rfl (fun hc => ?_) (fun hc => ?_)
  · replace h := h.1 (is_eq.t hc)
    refine w_seq ?_
    refine w_run [0, 0] ?_
    refine t_done [s0, (.func delg1 delc2), s0, (.int .i64 r3), (.bool ((r3) == (-1))), .undef, .undef, .undef, .undef] H4 (by kernel_rfl) ?_
    refine then_norm ?_
    refine w_ret ?_
    refine then_ret ?_
    exact body_ret (vs := [s0]) _ (by kernel_rfl) rfl h
  · replace h := h.2 (is_eq.f hc)
    refine w_skip ?_
    refine then_norm ?_
    refine w_seq ?_
    refine w_seq ?_
    refine w_run [0, 0, 0] ?_
    refine t_done [s0, (.func delg1 delc2), .empty, (.int .i64 r3), (.bool ((r3) == (-1))), (.int .i64 (IntKind.wrap .i64 (r3 + 1))), .undef, .undef, .undef] H4 (by kernel_rfl) ?_
    refine then_norm ?_
    refine w_block ?_
    obtain ⟨J6, k7, h0, h⟩ := h
    refine w_loop (I := fun mI EI HI => ∃ (i9 : Int) (j10 : Int) (d11 : AV) (d12 : AV) (d13 : AV), EI = [s0, (.func delg1 delc2), .empty, (.int .i64 i9), (.bool ((r3) == (-1))), (.int .i64 j10), d11, d12, d13] ∧ J6 mI i9 j10 HI) ?_ k7 ⟨_, _, _, _, _, rfl, h0⟩
    clear h0
    rintro m8 EI H14 ⟨i9, j10, d11, d12, d13, rfl, hJ⟩
    replace h := h m8 i9 j10 H14 hJ
    clear hJ
    refine w_seq ?_
    refine w_seq ?_
    refine w_run [0, 0, 1, 0] ?_
    obtain ⟨len15, hl, h⟩ := h
    refine t_len true s0 len15 H14 (by kernel_rfl) hl ?_
    refine t_done [s0, (.func delg1 delc2), .empty, (.int .i64 i9), (.bool ((r3) == (-1))), (.int .i64 j10), (.bool (decide (j10 < (len15 : Int)))), d12, d13] H14 (by kernel_rfl) ?_
    refine then_norm ?_
    refine w_cond (t := (decide (j10 < (len15 : Int)))) rfl (fun hc => ?_) (fun hc => ?_)
    · replace h := h.1 (is_dec.t hc)
      refine w_skip ?_
      refine then_norm ?_
      refine w_seq ?_
      refine w_block ?_
      refine w_seq ?_
      refine w_run [0, 0, 1, 1, 0] ?_
      obtain ⟨e16, hg17, h⟩ := h
      refine t_idxG true 1 s0 .i64 j10 H14 (by kernel_rfl) hg17 ?_
      refine t_loadG true none 1 s0 j10 0 (.int .i64 e16) H14 (by kernel_rfl) hg17 ?_
      refine t_done [s0, (.func delg1 delc2), .empty, (.int .i64 i9), (.bool ((r3) == (-1))), (.int .i64 j10), (.bool (decide (j10 < (len15 : Int)))), (.int .i64 e16), d13] H14 (by kernel_rfl) ?_
      refine then_norm ?_
      refine w_seq ?_
      refine w_run [0, 0, 1, 0] ?_
      refine t_call true delg1 (([(.int .i64 e16)] : List AV) ++ delc2) H14 (by kernel_rfl) h ?_
      clear h
      rintro _ H19 ⟨r18, rfl, h⟩
      refine t_done [s0, (.func delg1 delc2), .empty, (.int .i64 i9), (.bool ((r3) == (-1))), (.int .i64 j10), (.bool (decide (j10 < (len15 : Int)))), (.int .i64 e16), (.bool (!r18))] H19 (by kernel_rfl) ?_
      refine then_norm ?_
      refine w_cond (t := (!r18)) rfl (fun hc => ?_) (fun hc => ?_)
      · replace h := h.1 ((is_not is_raw).t hc)
        refine w_seq ?_
        refine w_run [0, 0, 0, 1, 1] ?_
        obtain ⟨b21, o22, hp, h⟩ := h
        refine t_idx true 1 s0 .i64 i9 b21 o22 H19 (by kernel_rfl) hp ?_
        obtain ⟨H23, hp, h⟩ := h
        refine t_store true 1 b21 o22 (.int .i64 e16) H23 H19 (by kernel_rfl) hp ?_
        refine t_done [s0, (.func delg1 delc2), .empty, (.int .i64 i9), (.bool ((r3) == (-1))), (.int .i64 j10), (.bool (decide (j10 < (len15 : Int)))), (.int .i64 e16), (.bool (!r18))] H23 (by kernel_rfl) ?_
        refine then_norm ?_
        refine w_run [0, 0, 0] ?_
        refine t_done [s0, (.func delg1 delc2), .empty, (.int .i64 (IntKind.wrap .i64 (i9 + 1))), (.bool ((r3) == (-1))), (.int .i64 j10), (.bool (decide (j10 < (len15 : Int)))), (.int .i64 e16), (.bool (!r18))] H23 (by kernel_rfl) ?_
        refine block_norm ?_
        refine then_norm ?_
        refine w_run [0, 0, 0] ?_
        refine t_done [s0, (.func delg1 delc2), .empty, (.int .i64 (IntKind.wrap .i64 (i9 + 1))), (.bool ((r3) == (-1))), (.int .i64 (IntKind.wrap .i64 (j10 + 1))), (.bool (decide (j10 < (len15 : Int)))), (.int .i64 e16), (.bool (!r18))] H23 (by kernel_rfl) ?_
        obtain ⟨m', hm, h⟩ := h
        refine loop_norm ⟨m', hm, _, _, _, _, _, rfl, h⟩
      · replace h := h.2 ((is_not is_raw).f hc)
        refine w_skip ?_
        refine block_norm ?_
        refine then_norm ?_
        refine w_run [0, 0, 0] ?_
        refine t_done [s0, (.func delg1 delc2), .empty, (.int .i64 i9), (.bool ((r3) == (-1))), (.int .i64 (IntKind.wrap .i64 (j10 + 1))), (.bool (decide (j10 < (len15 : Int)))), (.int .i64 e16), (.bool (!r18))] H19 (by kernel_rfl) ?_
        obtain ⟨m', hm, h⟩ := h
        refine loop_norm ⟨m', hm, _, _, _, _, _, rfl, h⟩
    · replace h := h.2 (is_dec.f hc)
      refine w_exit ?_
      refine then_exit ?_
      refine loop_exit ?_
      refine block_exit ?_
      refine then_norm ?_
      refine w_seq ?_
      refine w_run [0, 0, 1, 1] ?_
      obtain ⟨s26, hs, h⟩ := h
      refine t_slcL true 1 s0 (.int .i64 i9) s26 H14 (by kernel_rfl) hs ?_
      obtain ⟨H27, ha, h⟩ := h
      refine t_clear true 1 [(.int .i64 0)] s26 _ H27 H14 (by kernel_rfl) ha ?_
      refine t_done [s0, (.func delg1 delc2), .empty, (.int .i64 i9), (.bool ((r3) == (-1))), (.int .i64 j10), (.bool (decide (j10 < (len15 : Int)))), d12, d13] H27 (by kernel_rfl) ?_
      refine then_norm ?_
      refine w_seq ?_
      refine w_run [0, 0, 1, 0] ?_
      obtain ⟨s28, hs, h⟩ := h
      refine t_slcH true 1 s0 (.int .i64 i9) s28 H27 (by kernel_rfl) hs ?_
      refine t_done [s0, (.func delg1 delc2), s28, (.int .i64 i9), (.bool ((r3) == (-1))), (.int .i64 j10), (.bool (decide (j10 < (len15 : Int)))), d12, d13] H27 (by kernel_rfl) ?_
      refine then_norm ?_
      refine w_ret ?_
      exact body_ret (vs := [s28]) _ (by kernel_rfl) rfl h

def rf_slices_Clone__int_int : RFunc := ⟨0, 0, [], .fail, some (.clone 1 8)⟩

def rf_mergequeue_queue_settlex1 : RFunc := ⟨2, 3, [.var 2],
 ((.seq (.ops [⟨.move (.k (.bool false)), none, (some 2), true⟩])
 ((.seq (.ops [o1 (.move (.var 0)), o1 (.fieldAddr 0 (.var 1)), o1 (.load none (.loc 1)), o1 (.bin .eql .no (.loc 0) (.loc 2)), ⟨.move (.loc 3), none, (some 2), true⟩])
 (.ret))))), none⟩
theorem v_mergequeue_queue_settlex1 {F : Nat → Option RFunc} {me : Nat} (hF : F me = some (rf_mergequeue_queue_settlex1 )) {fl : Nat} {H : Heap} {Q : AV → Heap → Prop} (c0 : Int) (cap1 : AV)
  (h : ∃ b2 o3 : Nat, cap1 = .ptr b2 o3 ∧ ∃ (e4 : Int), rload H none b2 o3 = some (.int .i64 e4) ∧ Q (.bool ((c0) == e4)) H) : Ret F fl me [(.int .i64 c0), cap1] H Q := by
  refine ret_intro hF rfl ?_
  refine w_seq ?_
  refine w_run [0] ?_
  refine t_done [(.int .i64 c0), cap1, (.bool false)] H (by kernel_rfl) ?_
  refine then_norm ?_
  refine w_seq ?_
  refine w_run [0, 1, 1, 0, 0] ?_
  obtain ⟨b2, o3, rfl, h⟩ := h
  refine t_op true (.fieldAddr 0 (.loc 0)) [.ptr b2 o3] H (.ptr b2 o3) H (by kernel_rfl) rfl ?_
  obtain ⟨e4, hl, h⟩ := h
  refine t_load true none b2 o3 (.int .i64 e4) H (by kernel_rfl) hl ?_
  refine t_done [(.int .i64 c0), (.ptr b2 o3), (.bool ((c0) == e4))] H (by kernel_rfl) ?_
  refine then_norm ?_
  refine w_ret ?_
  exact body_ret (vs := [(.bool ((c0) == e4))]) _ (by kernel_rfl) rfl h

def rf_mergequeue_queue_findx1 : RFunc := ⟨2, 4, [.var 2],
 ((.seq (.ops [⟨.tomb 1 (.var 0), none, (some 3), true⟩, ⟨.move (.k (.bool false)), none, (some 2), true⟩])
 ((.seq (.ops [o1 (.field 0 none (.var 3)), o1 (.field 0 none (.var 3)), o1 (.load none (.var 1)), o1 (.bin .eql .no (.loc 1) (.loc 2)), ⟨.move (.loc 3), none, (some 2), true⟩])
 (.ret))))), none⟩
theorem v_mergequeue_queue_findx1 {F : Nat → Option RFunc} {me : Nat} (hF : F me = some (rf_mergequeue_queue_findx1 )) {fl : Nat} {H : Heap} {Q : AV → Heap → Prop} (e0 : Int) (e1 : Int) (e2 : Bool) (e3 : Bool) (e4 : Bool) (e5 : AV) (cap6 : AV)
  (h : ∀ (H7 : Heap), Dead1 H 1 H7 → ∃ (b8 : Nat) (o9 : Nat), cap6 = .ptr b8 o9 ∧ ∃ (e10 : Int), rload H7 none b8 o9 = some (.int .i64 e10) ∧ Q (.bool ((e0) == e10)) H7) : Ret F fl me [(.agg [(.int .i64 e0), (.int .i64 e1), (.bool e2), (.bool e3), (.bool e4), e5]), cap6] H Q := by
  refine ret_intro hF rfl ?_
  refine w_seq ?_
  refine w_run [1, 0] ?_
  obtain ⟨H7, hb⟩ : ∃ H', Dead1 H 1 H' := ⟨_, ⟨rfl⟩⟩
  replace h := h H7 hb
  refine t_tomb true 1 (.agg [(.int .i64 e0), (.int .i64 e1), (.bool e2), (.bool e3), (.bool e4), e5]) [(.int .i64 e0), (.int .i64 e1), (.bool e2), (.bool e3), (.bool e4), e5] H7 H (by kernel_rfl) rfl hb ?_
  refine t_done [(.agg [(.int .i64 e0), (.int .i64 e1), (.bool e2), (.bool e3), (.bool e4), e5]), cap6, (.bool false), (.agg [(.int .i64 e0), (.int .i64 e1), (.bool e2), (.bool e3), (.bool e4), e5])] H7 (by kernel_rfl) ?_
  refine then_norm ?_
  refine w_seq ?_
  refine w_run [0, 0, 1, 0, 0] ?_
  obtain ⟨b8, o9, rfl, e10, hl, h⟩ := h
  refine t_load true none b8 o9 (.int .i64 e10) H7 (by kernel_rfl) hl ?_
  refine t_done [(.agg [(.int .i64 e0), (.int .i64 e1), (.bool e2), (.bool e3), (.bool e4), e5]), (.ptr b8 o9), (.bool ((e0) == e10)), (.agg [(.int .i64 e0), (.int .i64 e1), (.bool e2), (.bool e3), (.bool e4), e5])] H7 (by kernel_rfl) ?_
  refine then_norm ?_
  refine w_ret ?_
  exact body_ret (vs := [(.bool ((e0) == e10))]) _ (by kernel_rfl) rfl h

def rf_slices_Delete__api_QueueEntry_api_QueueEntry : RFunc := ⟨3, 6, [.var 3],
 ((.seq (.ops [⟨.move (.k (.empty)), none, (some 3), true⟩])
 ((.seq (.ops [o1 (.move (.var 0)), o1 (.move (.var 1)), o1 (.move (.var 2)), o1 (.move (.var 0)), o1 (.len (.loc 3)), o1 (.slice 6 (.loc 0) (some (.loc 1)) (some (.loc 2)) (some (.loc 4)))])
 ((.seq ((.seq (.ops [o1 (.move (.var 1)), o1 (.move (.var 2)), ⟨.bin .eql .no (.loc 0) (.loc 1), none, (some 4), true⟩])
 (.cond (.var 4) ((.seq (.ops [o1 (.move (.var 0)), ⟨.move (.loc 0), none, (some 3), true⟩])
 (.ret))) (.skip))))
 ((.seq (.ops [o1 (.move (.var 0)), o1 (.len (.loc 0)), ⟨.move (.loc 1), none, (some 5), true⟩])
 ((.seq (.ops [o1 (.move (.var 0)), o1 (.move (.var 1)), o1 (.slice 6 (.loc 0) none (some (.loc 1)) none), o1 (.move (.var 0)), o1 (.move (.var 2)), o1 (.slice 6 (.loc 3) (some (.loc 4)) none none), o1 (.append 6 48 (.loc 2) (.loc 5)), ⟨.move (.loc 6), none, (some 0), true⟩])
 ((.seq (.ops [o1 (.move (.var 0)), o1 (.move (.var 0)), o1 (.len (.loc 1)), o1 (.move (.var 5)), o1 (.slice 6 (.loc 0) (some (.loc 2)) (some (.loc 3)) none), o1 (.clear 6 [.int .i64 0, .int .i64 0, .bool false, .bool false, .bool false, .empty] (.loc 4))])
 ((.seq (.ops [o1 (.move (.var 0)), ⟨.move (.loc 0), none, (some 3), true⟩])
 (.ret))))))))))))))), none⟩
theorem v_slices_Delete__api_QueueEntry_api_QueueEntry {F : Nat → Option RFunc} {me : Nat} (hF : F me = some (rf_slices_Delete__api_QueueEntry_api_QueueEntry )) {fl : Nat} {H : Heap} {Q : AV → Heap → Prop} (s0 : AV) (i1 : Int) (j2 : Int)
  (h : ∃ len3 : Nat, lenA s0 = some len3 ∧ ∃ s4 : AV, rslice H 6 s0 (some (.int .i64 i1)) (some (.int .i64 j2)) (some (.int .i64 (len3 : Int))) = some s4 ∧ ((i1 = j2) → Q s0 H) ∧ (¬(i1 = j2) → ∃ len5 : Nat, lenA s0 = some len5 ∧ ∃ s6 : AV, rslice H 6 s0 none (some (.int .i64 i1)) none = some s6 ∧ ∃ s7 : AV, rslice H 6 s0 (some (.int .i64 j2)) none none = some s7 ∧ ∃ (a8 : AV) (H9 : Heap), appA fl true 6 48 H s6 s7 = some (a8, H9) ∧ ∃ len10 : Nat, lenA a8 = some len10 ∧ ∃ s11 : AV, rslice H9 6 a8 (some (.int .i64 (len10 : Int))) (some (.int .i64 (len5 : Int))) none = some s11 ∧ ∃ (H12 : Heap), clearA fl 6 [(.int .i64 0), (.int .i64 0), (.bool false), (.bool false), (.bool false), .empty] H9 s11 = some (.undef, H12) ∧ Q a8 H12)) : Ret F fl me [s0, (.int .i64 i1), (.int .i64 j2)] H Q := by
  refine ret_intro hF rfl ?_
  refine w_seq ?_
  refine w_run [0] ?_
  refine t_done [s0, (.int .i64 i1), (.int .i64 j2), .empty, .undef, .undef] H (by kernel_rfl) ?_
  refine then_norm ?_
  refine w_seq ?_
  refine w_run [0, 0, 0, 0, 1, 1] ?_
  obtain ⟨len3, hl, h⟩ := h
  refine t_len true s0 len3 H (by kernel_rfl) hl ?_
  obtain ⟨s4, hs, h⟩ := h
  refine t_slcLHM true 6 s0 (.int .i64 i1) (.int .i64 j2) (.int .i64 (len3 : Int)) s4 H (by kernel_rfl) hs ?_
  refine t_done [s0, (.int .i64 i1), (.int .i64 j2), .empty, .undef, .undef] H (by kernel_rfl) ?_
  refine then_norm ?_
  refine w_seq ?_
  refine w_seq ?_
  refine w_run [0, 0, 0] ?_
  refine t_done [s0, (.int .i64 i1), (.int .i64 j2), .empty, (.bool ((i1) == j2)), .undef] H (by kernel_rfl) ?_
  refine then_norm ?_
  refine w_cond (t := ((i1) == j2)) rfl (fun hc => ?_) (fun hc => ?_)
  · replace h := h.1 (is_eq.t hc)
    refine w_seq ?_
    refine w_run [0, 0] ?_
    refine t_done [s0, (.int .i64 i1), (.int .i64 j2), s0, (.bool ((i1) == j2)), .undef] H (by kernel_rfl) ?_
    refine then_norm ?_
    refine w_ret ?_
    refine then_ret ?_
    exact body_ret (vs := [s0]) _ (by kernel_rfl) rfl h
  · replace h := h.2 (is_eq.f hc)
    refine w_skip ?_
    refine then_norm ?_
    refine w_seq ?_
    refine w_run [0, 1, 0] ?_
    obtain ⟨len5, hl, h⟩ := h
    refine t_len true s0 len5 H (by kernel_rfl) hl ?_
    refine t_done [s0, (.int .i64 i1), (.int .i64 j2), .empty, (.bool ((i1) == j2)), (.int .i64 (len5 : Int))] H (by kernel_rfl) ?_
    refine then_norm ?_
    refine w_seq ?_
    refine w_run [0, 0, 1, 0, 0, 1, 1, 0] ?_
    obtain ⟨s6, hs, h⟩ := h
    refine t_slcH true 6 s0 (.int .i64 i1) s6 H (by kernel_rfl) hs ?_
    obtain ⟨s7, hs, h⟩ := h
    refine t_slcL true 6 s0 (.int .i64 j2) s7 H (by kernel_rfl) hs ?_
    obtain ⟨a8, H9, ha, h⟩ := h
    refine t_app true 6 48 s6 s7 a8 H9 H (by kernel_rfl) ha ?_
    refine t_done [a8, (.int .i64 i1), (.int .i64 j2), .empty, (.bool ((i1) == j2)), (.int .i64 (len5 : Int))] H9 (by kernel_rfl) ?_
    refine then_norm ?_
    refine w_seq ?_
    refine w_run [0, 0, 1, 0, 1, 1] ?_
    obtain ⟨len10, hl, h⟩ := h
    refine t_len true a8 len10 H9 (by kernel_rfl) hl ?_
    obtain ⟨s11, hs, h⟩ := h
    refine t_slcLH true 6 a8 (.int .i64 (len10 : Int)) (.int .i64 (len5 : Int)) s11 H9 (by kernel_rfl) hs ?_
    obtain ⟨H12, ha, h⟩ := h
    refine t_clear true 6 [(.int .i64 0), (.int .i64 0), (.bool false), (.bool false), (.bool false), .empty] s11 _ H12 H9 (by kernel_rfl) ha ?_
    refine t_done [a8, (.int .i64 i1), (.int .i64 j2), .empty, (.bool ((i1) == j2)), (.int .i64 (len5 : Int))] H12 (by kernel_rfl) ?_
    refine then_norm ?_
    refine w_seq ?_
    refine w_run [0, 0] ?_
    refine t_done [a8, (.int .i64 i1), (.int .i64 j2), a8, (.bool ((i1) == j2)), (.int .i64 (len5 : Int))] H12 (by kernel_rfl) ?_
    refine then_norm ?_
    refine w_ret ?_
    exact body_ret (vs := [a8]) _ (by kernel_rfl) rfl h

def rf_mergequeue_queue_find (nmergequeue_queue_findx1 nslices_IndexFunc__api_QueueEntry_api_QueueEntry : Nat) : RFunc := ⟨2, 4, [.var 2],
 ((.seq (.ops [⟨.box 1 (.var 1), none, (some 3), true⟩, ⟨.move (.k (.int .i64 0)), none, (some 2), true⟩])
 ((.seq (.ops [o1 (.move (.var 0)), o1 (.nilCheck (.loc 0)), o1 (.fieldAddr 0 (.loc 1)), o1 (.fieldAddr 0 (.loc 2)), o1 (.load none (.loc 3)), o1 (.makeFunc nmergequeue_queue_findx1 [(.var 3)]), o1 (.callS nslices_IndexFunc__api_QueueEntry_api_QueueEntry [(.loc 4), (.loc 5)]), ⟨.move (.loc 6), none, (some 2), true⟩])
 (.ret))))), none⟩
theorem v_mergequeue_queue_find {F : Nat → Option RFunc} {me nmergequeue_queue_findx1 nslices_IndexFunc__api_QueueEntry_api_QueueEntry : Nat} (hF : F me = some (rf_mergequeue_queue_find nmergequeue_queue_findx1 nslices_IndexFunc__api_QueueEntry_api_QueueEntry)) {fl : Nat} {H : Heap} {Q : AV → Heap → Prop} (qb0 : Nat) (qo1 : Nat) (change2 : Int)
  (h : ∀ (b3 : Nat) (H4 : Heap), NewB H 1 [(.int .i64 change2)] b3 H4 → ∃ (e5 : AV), rload H4 none qb0 qo1 = some e5 ∧ Ret F fl nslices_IndexFunc__api_QueueEntry_api_QueueEntry [e5, (.func nmergequeue_queue_findx1 [(.ptr b3 0)])] H4 (fun v8 H7 => ∃ (r6 : Int), v8 = (.int .i64 r6) ∧ Q (.int .i64 r6) H7)) : Ret F fl me [(.ptr qb0 qo1), (.int .i64 change2)] H Q := by
  refine ret_intro hF rfl ?_
  refine w_seq ?_
  refine w_run [1, 0] ?_
  obtain ⟨b3, H4, hb⟩ : ∃ b H', NewB H 1 [(.int .i64 change2)] b H' := ⟨_, _, rfl, rfl⟩
  replace h := h b3 H4 hb
  refine t_box true 1 (.int .i64 change2) [(.int .i64 change2)] b3 H4 H (by kernel_rfl) rfl hb ?_
  refine t_done [(.ptr qb0 qo1), (.int .i64 change2), (.int .i64 0), (.ptr b3 0)] H4 (by kernel_rfl) ?_
  refine then_norm ?_
  refine w_seq ?_
  refine w_run [0, 1, 1, 1, 1, 0, 1, 0] ?_
  refine t_ptr true qb0 qo1 H4 (by kernel_rfl) ?_
  refine t_op true (.fieldAddr 0 (.loc 0)) [.ptr qb0 qo1] H4 (.ptr qb0 qo1) H4 (by kernel_rfl) rfl ?_
  refine t_op true (.fieldAddr 0 (.loc 0)) [.ptr qb0 qo1] H4 (.ptr qb0 qo1) H4 (by kernel_rfl) rfl ?_
  obtain ⟨e5, hl, h⟩ := h
  refine t_load true none qb0 qo1 e5 H4 (by kernel_rfl) hl ?_
  refine t_call true nslices_IndexFunc__api_QueueEntry_api_QueueEntry [e5, (.func nmergequeue_queue_findx1 [(.ptr b3 0)])] H4 (by kernel_rfl) h ?_
  clear h
  rintro _ H7 ⟨r6, rfl, h⟩
  refine t_done [(.ptr qb0 qo1), (.int .i64 change2), (.int .i64 r6), (.ptr b3 0)] H7 (by kernel_rfl) ?_
  refine then_norm ?_
  refine w_ret ?_
  exact body_ret (vs := [(.int .i64 r6)]) _ (by kernel_rfl) rfl h

def rf_mergequeue_queue_reset : RFunc := ⟨2, 5, [],
 ((.seq (.ops [o1 (.move (.var 1)), ⟨.move (.loc 0), none, (some 2), true⟩])
 (.block 0 (.loop ((.seq ((.seq (.ops [o1 (.move (.var 2)), o1 (.move (.var 0)), o1 (.nilCheck (.loc 1)), o1 (.fieldAddr 0 (.loc 2)), o1 (.fieldAddr 0 (.loc 3)), o1 (.load none (.loc 4)), o1 (.len (.loc 5)), ⟨.bin .lss .no (.loc 0) (.loc 6), none, (some 3), true⟩])
 (.cond (.var 3) (.skip) (.exit 0))))
 ((.seq (.block 1 ((.seq (.ops [o1 (.move (.var 0)), o1 (.nilCheck (.loc 0)), o1 (.fieldAddr 0 (.loc 1)), o1 (.fieldAddr 0 (.loc 2)), o1 (.load none (.loc 3)), o1 (.move (.var 2)), o1 (.indexAddr 6 (.loc 4) (.loc 5)), ⟨.move (.loc 6), none, (some 4), true⟩])
 (.ops [⟨.move (.var 4), none, none, false⟩, ⟨.move (.var 4), none, none, false⟩, ⟨.nilCheck (.loc 1), none, none, false⟩, ⟨.fieldAddr 0 (.loc 2), none, none, false⟩, ⟨.load none (.loc 3), none, none, false⟩, ⟨.move (.var 4), none, none, false⟩, ⟨.nilCheck (.loc 5), none, none, false⟩, ⟨.fieldAddr 1 (.loc 6), none, none, false⟩, ⟨.load none (.loc 7), none, none, false⟩, o1 (.build [.int .i64 0, .int .i64 0, .bool false, .bool false, .bool false, .empty] [(0, 1, (.loc 4)), (1, 1, (.loc 8))]), o1 (.nilCheck (.loc 0)), o1 (.store 6 (.loc 10) (.loc 9) [])]))))
 (.ops [o1 (.move (.var 2)), o1 (.bin .add .no (.loc 0) (.k (.int .i64 1))), ⟨.move (.loc 1), none, (some 2), true⟩]))))))))), none⟩
theorem v_mergequeue_queue_reset {F : Nat → Option RFunc} {me : Nat} (hF : F me = some (rf_mergequeue_queue_reset )) {fl : Nat} {H : Heap} {Q : AV → Heap → Prop} (qb0 : Nat) (qo1 : Nat) (i2 : Int)
  (h : ∃ (J3 : Nat → Int → Heap → Prop) (k4 : Nat), J3 k4 i2 H ∧ (∀ (m5 : Nat) (k6 : Int) (H9 : Heap), J3 m5 k6 H9 → ∃ (e10 : AV), rload H9 none qb0 qo1 = some e10 ∧ ∃ len11 : Nat, lenA e10 = some len11 ∧ ((k6 < (len11 : Int)) → ∃ (e12 : AV), rload H9 none qb0 qo1 = some e12 ∧ ∃ b13 o14 : Nat, ptrA 6 e12 k6 = some (b13, o14) ∧ ∃ (e15 : Int), rload H9 none b13 o14 = some (.int .i64 e15) ∧ ∃ (e16 : Int), rload H9 none b13 (o14 + 1) = some (.int .i64 e16) ∧ ∃ H17 : Heap, putA fl H9 b13 o14 6 (.agg [(.int .i64 e15), (.int .i64 e16), (.bool false), (.bool false), (.bool false), .empty]) = some H17 ∧ ∃ m18 : Nat, m18 < m5 ∧ J3 m18 (IntKind.wrap .i64 (k6 + 1)) H17) ∧ (¬(k6 < (len11 : Int)) → Q .undef H9))) : Ret F fl me [(.ptr qb0 qo1), (.int .i64 i2)] H Q := by
  refine ret_intro hF rfl ?_
  refine w_seq ?_
  refine w_run [0, 0] ?_
  refine t_done [(.ptr qb0 qo1), (.int .i64 i2), (.int .i64 i2), .undef, .undef] H (by kernel_rfl) ?_
  refine then_norm ?_
  refine w_block ?_
  obtain ⟨J3, k4, h0, h⟩ := h
  refine w_loop (I := fun mI EI HI => ∃ (k6 : Int) (d7 : AV) (d8 : AV), EI = [(.ptr qb0 qo1), (.int .i64 i2), (.int .i64 k6), d7, d8] ∧ J3 mI k6 HI) ?_ k4 ⟨_, _, _, rfl, h0⟩
  clear h0
  rintro m5 EI H9 ⟨k6, d7, d8, rfl, hJ⟩
  replace h := h m5 k6 H9 hJ
  clear hJ
  refine w_seq ?_
  refine w_seq ?_
  refine w_run [0, 0, 1, 1, 1, 1, 1, 0] ?_
  refine t_ptr true qb0 qo1 H9 (by kernel_rfl) ?_
  refine t_op true (.fieldAddr 0 (.loc 0)) [.ptr qb0 qo1] H9 (.ptr qb0 qo1) H9 (by kernel_rfl) rfl ?_
  refine t_op true (.fieldAddr 0 (.loc 0)) [.ptr qb0 qo1] H9 (.ptr qb0 qo1) H9 (by kernel_rfl) rfl ?_
  obtain ⟨e10, hl, h⟩ := h
  refine t_load true none qb0 qo1 e10 H9 (by kernel_rfl) hl ?_
  obtain ⟨len11, hl, h⟩ := h
  refine t_len true e10 len11 H9 (by kernel_rfl) hl ?_
  refine t_done [(.ptr qb0 qo1), (.int .i64 i2), (.int .i64 k6), (.bool (decide (k6 < (len11 : Int)))), d8] H9 (by kernel_rfl) ?_
  refine then_norm ?_
  refine w_cond (t := (decide (k6 < (len11 : Int)))) rfl (fun hc => ?_) (fun hc => ?_)
  · replace h := h.1 (is_dec.t hc)
    refine w_skip ?_
    refine then_norm ?_
    refine w_seq ?_
    refine w_block ?_
    refine w_seq ?_
    refine w_run [0, 1, 1, 1, 1, 0, 1, 0] ?_
    refine t_ptr true qb0 qo1 H9 (by kernel_rfl) ?_
    refine t_op true (.fieldAddr 0 (.loc 0)) [.ptr qb0 qo1] H9 (.ptr qb0 qo1) H9 (by kernel_rfl) rfl ?_
    refine t_op true (.fieldAddr 0 (.loc 0)) [.ptr qb0 qo1] H9 (.ptr qb0 qo1) H9 (by kernel_rfl) rfl ?_
    obtain ⟨e12, hl, h⟩ := h
    refine t_load true none qb0 qo1 e12 H9 (by kernel_rfl) hl ?_
    obtain ⟨b13, o14, hp, h⟩ := h
    refine t_idx true 6 e12 .i64 k6 b13 o14 H9 (by kernel_rfl) hp ?_
    refine t_done [(.ptr qb0 qo1), (.int .i64 i2), (.int .i64 k6), (.bool (decide (k6 < (len11 : Int)))), (.ptr b13 o14)] H9 (by kernel_rfl) ?_
    refine then_norm ?_
    refine w_run [0, 0, 1, 1, 1, 0, 1, 1, 1, 1, 1, 1] ?_
    refine t_ptr false b13 o14 H9 (by kernel_rfl) ?_
    refine t_op false (.fieldAddr 0 (.loc 0)) [.ptr b13 o14] H9 (.ptr b13 o14) H9 (by kernel_rfl) rfl ?_
    obtain ⟨e15, hl, h⟩ := h
    refine t_load false none b13 o14 (.int .i64 e15) H9 (by kernel_rfl) hl ?_
    refine t_ptr false b13 o14 H9 (by kernel_rfl) ?_
    refine t_op false (.fieldAddr 1 (.loc 0)) [.ptr b13 o14] H9 (.ptr b13 (o14 + 1)) H9 (by kernel_rfl) rfl ?_
    obtain ⟨e16, hl, h⟩ := h
    refine t_load false none b13 (o14 + 1) (.int .i64 e16) H9 (by kernel_rfl) hl ?_
    refine t_build true [(.int .i64 0), (.int .i64 0), (.bool false), (.bool false), (.bool false), .empty] [(0, 1, .loc 0), (1, 1, .loc 1)] [(.int .i64 e15), (.int .i64 e16)] [(.int .i64 e15), (.int .i64 e16), (.bool false), (.bool false), (.bool false), .empty] H9 (by kernel_rfl) (fill_c (vs := [(.int .i64 e15)]) (size := 1) rfl (by kernel_rfl) (by kernel_rfl) (fill_c (vs := [(.int .i64 e16)]) (size := 1) rfl (by kernel_rfl) (by kernel_rfl) (by kernel_rfl))) ?_
    refine t_ptr true b13 o14 H9 (by kernel_rfl) ?_
    obtain ⟨H17, hp, h⟩ := h
    refine t_store true 6 b13 o14 (.agg [(.int .i64 e15), (.int .i64 e16), (.bool false), (.bool false), (.bool false), .empty]) H17 H9 (by kernel_rfl) hp ?_
    refine t_done [(.ptr qb0 qo1), (.int .i64 i2), (.int .i64 k6), (.bool (decide (k6 < (len11 : Int)))), (.ptr b13 o14)] H17 (by kernel_rfl) ?_
    refine block_norm ?_
    refine then_norm ?_
    refine w_run [0, 0, 0] ?_
    refine t_done [(.ptr qb0 qo1), (.int .i64 i2), (.int .i64 (IntKind.wrap .i64 (k6 + 1))), (.bool (decide (k6 < (len11 : Int)))), (.ptr b13 o14)] H17 (by kernel_rfl) ?_
    obtain ⟨m', hm, h⟩ := h
    refine loop_norm ⟨m', hm, _, _, _, rfl, h⟩
  · replace h := h.2 (is_dec.f hc)
    refine w_exit ?_
    refine then_exit ?_
    refine loop_exit ?_
    refine block_exit ?_
    exact body_norm (vs := []) _ (by kernel_rfl) rfl h

def rf_slices_Insert__api_QueueEntry_api_QueueEntry : RFunc := ⟨0, 0, [], .fail, some (.insert 6 48)⟩

def rf_mergequeue_queue_remove (nslices_Delete__api_QueueEntry_api_QueueEntry nmergequeue_queue_reset : Nat) : RFunc := ⟨2, 2, [],
 ((.seq (.ops [o1 (.move (.var 0)), o1 (.move (.var 0)), o1 (.nilCheck (.loc 1)), o1 (.fieldAddr 0 (.loc 2)), o1 (.fieldAddr 0 (.loc 3)), o1 (.load none (.loc 4)), o1 (.move (.var 1)), o1 (.move (.var 1)), o1 (.bin .add .no (.loc 7) (.k (.int .i64 1))), o1 (.callS nslices_Delete__api_QueueEntry_api_QueueEntry [(.loc 5), (.loc 6), (.loc 8)]), o1 (.nilCheck (.loc 0)), o1 (.fieldAddr 0 (.loc 10)), o1 (.fieldAddr 0 (.loc 11)), o1 (.store 1 (.loc 12) (.loc 9) [])])
 (.ops [o1 (.move (.var 0)), o1 (.move (.var 1)), o1 (.callS nmergequeue_queue_reset [(.loc 0), (.loc 1)])]))), none⟩
theorem v_mergequeue_queue_remove {F : Nat → Option RFunc} {me nslices_Delete__api_QueueEntry_api_QueueEntry nmergequeue_queue_reset : Nat} (hF : F me = some (rf_mergequeue_queue_remove nslices_Delete__api_QueueEntry_api_QueueEntry nmergequeue_queue_reset)) {fl : Nat} {H : Heap} {Q : AV → Heap → Prop} (qb0 : Nat) (qo1 : Nat) (i2 : Int)
  (h : ∃ (e3 : AV), rload H none qb0 qo1 = some e3 ∧ Ret F fl nslices_Delete__api_QueueEntry_api_QueueEntry [e3, (.int .i64 i2), (.int .i64 (IntKind.wrap .i64 (i2 + 1)))] H (fun r4 H5 => ∃ H7 : Heap, putA fl H5 qb0 qo1 1 r4 = some H7 ∧ Ret F fl nmergequeue_queue_reset [(.ptr qb0 qo1), (.int .i64 i2)] H7 (fun v9 H8 => v9 = .undef ∧ Q .undef H8))) : Ret F fl me [(.ptr qb0 qo1), (.int .i64 i2)] H Q := by
  refine ret_intro hF rfl ?_
  refine w_seq ?_
  refine w_run [0, 0, 1, 1, 1, 1, 0, 0, 0, 1, 1, 1, 1, 1] ?_
  refine t_ptr true qb0 qo1 H (by kernel_rfl) ?_
  refine t_op true (.fieldAddr 0 (.loc 0)) [.ptr qb0 qo1] H (.ptr qb0 qo1) H (by kernel_rfl) rfl ?_
  refine t_op true (.fieldAddr 0 (.loc 0)) [.ptr qb0 qo1] H (.ptr qb0 qo1) H (by kernel_rfl) rfl ?_
  obtain ⟨e3, hl, h⟩ := h
  refine t_load true none qb0 qo1 e3 H (by kernel_rfl) hl ?_
  refine t_call true nslices_Delete__api_QueueEntry_api_QueueEntry [e3, (.int .i64 i2), (.int .i64 (IntKind.wrap .i64 (i2 + 1)))] H (by kernel_rfl) h ?_
  clear h
  rintro r4 H5 h
  refine t_ptr true qb0 qo1 H5 (by kernel_rfl) ?_
  refine t_op true (.fieldAddr 0 (.loc 0)) [.ptr qb0 qo1] H5 (.ptr qb0 qo1) H5 (by kernel_rfl) rfl ?_
  refine t_op true (.fieldAddr 0 (.loc 0)) [.ptr qb0 qo1] H5 (.ptr qb0 qo1) H5 (by kernel_rfl) rfl ?_
  obtain ⟨H7, hp, h⟩ := h
  refine t_store true 1 qb0 qo1 r4 H7 H5 (by kernel_rfl) hp ?_
  refine t_done [(.ptr qb0 qo1), (.int .i64 i2)] H7 (by kernel_rfl) ?_
  refine then_norm ?_
  refine w_run [0, 0, 1] ?_
  refine t_call true nmergequeue_queue_reset [(.ptr qb0 qo1), (.int .i64 i2)] H7 (by kernel_rfl) h ?_
  clear h
  rintro _ H8 ⟨rfl, h⟩
  refine t_done [(.ptr qb0 qo1), (.int .i64 i2)] H8 (by kernel_rfl) ?_
  exact body_norm (vs := []) _ (by kernel_rfl) rfl h

def rf_mergequeue_queue_add (nmergequeue_queue_find nslices_Contains__int_int nslices_Insert__api_QueueEntry_api_QueueEntry nmergequeue_queue_reset : Nat) : RFunc := ⟨2, 9, [.var 2],
 ((.seq (.ops [⟨.tomb 1 (.var 1), none, (some 3), true⟩, ⟨.move (.k (.int .i64 0)), none, (some 2), true⟩])
 ((.seq (.ops [⟨.move (.var 0), none, none, false⟩, o1 (.field 0 none (.var 3)), o1 (.field 1 none (.var 3)), o1 (.callS nmergequeue_queue_find [(.loc 0), (.loc 2)]), o1 (.bin .geq .no (.loc 3) (.k (.int .i64 0))), o1 (.move (.loc 4)), ⟨.move (.var 0), none, none, false⟩, ⟨.nilCheck (.loc 6), (some (5, false)), none, false⟩, ⟨.fieldAddr 0 (.loc 7), (some (5, false)), none, false⟩, ⟨.fieldAddr 1 (.loc 8), (some (5, false)), none, false⟩, ⟨.load none (.loc 9), (some (5, false)), none, false⟩, ⟨.field 0 none (.var 3), none, none, false⟩, ⟨.field 1 none (.var 3), none, none, false⟩, ⟨.callS nslices_Contains__int_int [(.loc 10), (.loc 12)], (some (5, false)), none, true⟩, o1 (.pick (.loc 5) (.k (.bool true)) (.loc 13)), o1 (.move (.loc 14)), ⟨.move (.var 0), none, none, false⟩, ⟨.nilCheck (.loc 16), (some (15, false)), none, false⟩, ⟨.fieldAddr 0 (.loc 17), (some (15, false)), none, false⟩, ⟨.fieldAddr 2 (.loc 18), (some (15, false)), none, false⟩, ⟨.load none (.loc 19), (some (15, false)), none, false⟩, ⟨.field 0 none (.var 3), none, none, false⟩, ⟨.field 1 none (.var 3), none, none, false⟩, ⟨.callS nslices_Contains__int_int [(.loc 20), (.loc 22)], (some (15, false)), none, true⟩, o1 (.pick (.loc 15) (.k (.bool true)) (.loc 23)), ⟨.move (.loc 24), none, (some 4), true⟩])
 ((.seq (.block 0 ((.seq (.ops [o1 (.move (.var 4)), ⟨.move (.loc 0), none, (some 5), true⟩])
 (.cond (.var 5) ((.seq (.ops [⟨.move (.k (.int .i64 7)), none, (some 2), true⟩])
 (.ret))) ((.seq (.ops [o1 (.move (.var 0)), o1 (.nilCheck (.loc 0)), o1 (.fieldAddr 0 (.loc 1)), o1 (.fieldAddr 0 (.loc 2)), o1 (.load none (.loc 3)), o1 (.len (.loc 4)), o1 (.bin .geq .no (.loc 5) (.k (.int .i64 10))), ⟨.move (.loc 6), none, (some 6), true⟩])
 (.cond (.var 6) ((.seq (.ops [⟨.move (.k (.int .i64 14)), none, (some 2), true⟩])
 (.ret))) (.skip))))))))
 ((.seq (.ops [⟨.move (.k (.int .i64 0)), none, (some 7), true⟩])
 ((.seq (.block 1 (.loop ((.seq ((.seq (.ops [⟨.move (.var 7), none, none, false⟩, o1 (.move (.var 0)), o1 (.nilCheck (.loc 1)), o1 (.fieldAddr 0 (.loc 2)), o1 (.fieldAddr 0 (.loc 3)), o1 (.load none (.loc 4)), o1 (.len (.loc 5)), o1 (.bin .lss .no (.loc 0) (.loc 6)), o1 (.move (.loc 7)), ⟨.move (.var 0), none, none, false⟩, ⟨.nilCheck (.loc 9), (some (8, true)), none, false⟩, ⟨.fieldAddr 0 (.loc 10), (some (8, true)), none, false⟩, ⟨.fieldAddr 0 (.loc 11), (some (8, true)), none, false⟩, ⟨.load none (.loc 12), (some (8, true)), none, false⟩, ⟨.move (.var 7), none, none, false⟩, ⟨.indexAddr 6 (.loc 13) (.loc 14), (some (8, true)), none, false⟩, ⟨.fieldAddr 1 (.loc 15), (some (8, true)), none, false⟩, ⟨.load none (.loc 16), (some (8, true)), none, false⟩, ⟨.field 0 none (.var 3), none, none, false⟩, ⟨.field 2 none (.var 3), none, none, false⟩, ⟨.bin .geq .no (.loc 17) (.loc 19), (some (8, true)), none, true⟩, ⟨.pick (.loc 8) (.loc 20) (.k (.bool false)), none, (some 8), true⟩])
 (.cond (.var 8) (.skip) (.exit 1))))
 (.block 2 (.ops [o1 (.move (.var 7)), o1 (.bin .add .no (.loc 0) (.k (.int .i64 1))), ⟨.move (.loc 1), none, (some 7), true⟩]))))))
 ((.seq (.ops [⟨.move (.var 0), none, none, false⟩, ⟨.move (.var 0), none, none, false⟩, ⟨.nilCheck (.loc 1), none, none, false⟩, ⟨.fieldAddr 0 (.loc 2), none, none, false⟩, ⟨.fieldAddr 0 (.loc 3), none, none, false⟩, ⟨.load none (.loc 4), none, none, false⟩, ⟨.move (.var 7), none, none, false⟩, ⟨.field 0 none (.var 3), none, none, false⟩, ⟨.field 1 none (.var 3), none, none, false⟩, ⟨.field 0 none (.var 3), none, none, false⟩, ⟨.field 2 none (.var 3), none, none, false⟩, ⟨.build [.int .i64 0, .int .i64 0, .bool false, .bool false, .bool false, .empty] [(0, 1, (.loc 8)), (1, 1, (.loc 10))], none, none, false⟩, ⟨.buildSlice 6 [.int .i64 0, .int .i64 0, .bool false, .bool false, .bool false, .empty] [(0, 6, (.loc 11))] 1, none, none, false⟩, o1 (.callS nslices_Insert__api_QueueEntry_api_QueueEntry [(.loc 5), (.loc 6), (.loc 12)]), o1 (.nilCheck (.loc 0)), o1 (.fieldAddr 0 (.loc 14)), o1 (.fieldAddr 0 (.loc 15)), o1 (.store 1 (.loc 16) (.loc 13) [])])
 ((.seq (.ops [o1 (.move (.var 0)), o1 (.move (.var 7)), o1 (.callS nmergequeue_queue_reset [(.loc 0), (.loc 1)])])
 ((.seq (.ops [⟨.move (.k (.int .i64 0)), none, (some 2), true⟩])
 (.ret))))))))))))))))), none⟩
theorem v_mergequeue_queue_add {F : Nat → Option RFunc} {me nmergequeue_queue_find nslices_Contains__int_int nslices_Insert__api_QueueEntry_api_QueueEntry nmergequeue_queue_reset : Nat} (hF : F me = some (rf_mergequeue_queue_add nmergequeue_queue_find nslices_Contains__int_int nslices_Insert__api_QueueEntry_api_QueueEntry nmergequeue_queue_reset)) {fl : Nat} {H : Heap} {Q : AV → Heap → Prop} (qb0 : Nat) (qo1 : Nat) (e2 : Int) (e3 : Int) (e4 : Int)
  (h : ∀ (H5 : Heap), Dead1 H 1 H5 → Ret F fl nmergequeue_queue_find [(.ptr qb0 qo1), (.int .i64 e3)] H5 (fun v8 H7 => ∃ (r6 : Int), v8 = (.int .i64 r6) ∧ ((r6 ≥ 0) → Q (.int .i64 7) H7) ∧ (¬(r6 ≥ 0) → ∃ (e9 : AV), rload H7 none qb0 (qo1 + 1) = some e9 ∧ Ret F fl nslices_Contains__int_int [e9, (.int .i64 e3)] H7 (fun v12 H11 => ∃ (r10 : Bool), v12 = (.bool r10) ∧ ((r10 = true) → Q (.int .i64 7) H11) ∧ (¬(r10 = true) → ∃ (e13 : AV), rload H11 none qb0 (qo1 + 2) = some e13 ∧ Ret F fl nslices_Contains__int_int [e13, (.int .i64 e3)] H11 (fun v16 H15 => ∃ (r14 : Bool), v16 = (.bool r14) ∧ ((r14 = true) → Q (.int .i64 7) H15) ∧ (¬(r14 = true) → ∃ (e17 : AV), rload H15 none qb0 qo1 = some e17 ∧ ∃ len18 : Nat, lenA e17 = some len18 ∧ (((len18 : Int) ≥ 10) → Q (.int .i64 14) H15) ∧ (¬((len18 : Int) ≥ 10) → ∃ (J19 : Nat → Int → Prop) (k20 : Nat), J19 k20 0 ∧ (∀ (m21 : Nat) (i22 : Int), J19 m21 i22 → ∃ (e24 : AV), rload H15 none qb0 qo1 = some e24 ∧ ∃ len25 : Nat, lenA e24 = some len25 ∧ ((i22 < (len25 : Int)) → ∃ (e26 : AV), rload H15 none qb0 qo1 = some e26 ∧ ∃ (e27 : Int), getA H15 6 none e26 i22 1 = some (.int .i64 e27) ∧ ((e27 ≥ e4) → ∃ m29 : Nat, m29 < m21 ∧ J19 m29 (IntKind.wrap .i64 (i22 + 1))) ∧ (¬(e27 ≥ e4) → ∃ (e30 : AV), rload H15 none qb0 qo1 = some e30 ∧ ∀ (b31 : Nat) (H32 : Heap), NewB H15 6 [(.int .i64 e3), (.int .i64 e4), (.bool false), (.bool false), (.bool false), .empty] b31 H32 → Ret F fl nslices_Insert__api_QueueEntry_api_QueueEntry [e30, (.int .i64 i22), (.slice b31 0 1 (some 1))] H32 (fun r33 H34 => ∃ H36 : Heap, putA fl H34 qb0 qo1 1 r33 = some H36 ∧ Ret F fl nmergequeue_queue_reset [(.ptr qb0 qo1), (.int .i64 i22)] H36 (fun v38 H37 => v38 = .undef ∧ Q (.int .i64 0) H37)))) ∧ (¬(i22 < (len25 : Int)) → ∃ (e39 : AV), rload H15 none qb0 qo1 = some e39 ∧ ∀ (b40 : Nat) (H41 : Heap), NewB H15 6 [(.int .i64 e3), (.int .i64 e4), (.bool false), (.bool false), (.bool false), .empty] b40 H41 → Ret F fl nslices_Insert__api_QueueEntry_api_QueueEntry [e39, (.int .i64 i22), (.slice b40 0 1 (some 1))] H41 (fun r42 H43 => ∃ H45 : Heap, putA fl H43 qb0 qo1 1 r42 = some H45 ∧ Ret F fl nmergequeue_queue_reset [(.ptr qb0 qo1), (.int .i64 i22)] H45 (fun v47 H46 => v47 = .undef ∧ Q (.int .i64 0) H46)))))))))))) : Ret F fl me [(.ptr qb0 qo1), (.agg [(.int .i64 e2), (.int .i64 e3), (.int .i64 e4)])] H Q := by
  refine ret_intro hF rfl ?_
  refine w_seq ?_
  refine w_run [1, 0] ?_
  obtain ⟨H5, hb⟩ : ∃ H', Dead1 H 1 H' := ⟨_, ⟨rfl⟩⟩
  replace h := h H5 hb
  refine t_tomb true 1 (.agg [(.int .i64 e2), (.int .i64 e3), (.int .i64 e4)]) [(.int .i64 e2), (.int .i64 e3), (.int .i64 e4)] H5 H (by kernel_rfl) rfl hb ?_
  refine t_done [(.ptr qb0 qo1), (.agg [(.int .i64 e2), (.int .i64 e3), (.int .i64 e4)]), (.int .i64 0), (.agg [(.int .i64 e2), (.int .i64 e3), (.int .i64 e4)]), .undef, .undef, .undef, .undef, .undef] H5 (by kernel_rfl) ?_
  refine then_norm ?_
  refine w_seq ?_
  refine w_run [0, 0, 0, 1, 0, 0, 0, 3, 3, 3, 3, 0, 0, 3, 0, 0, 0, 3, 3, 3, 3, 0, 0, 3, 0, 0] ?_
  refine t_call true nmergequeue_queue_find [(.ptr qb0 qo1), (.int .i64 e3)] H5 (by kernel_rfl) h ?_
  clear h
  rintro _ H7 ⟨r6, rfl, h⟩
  refine t_gd (decide (r6 ≥ 0)) false (by kernel_rfl) (fun hc => ?_) (fun hc => ?_)
  · replace h := h.2 (is_dec.f hc)
    refine t_ptr false qb0 qo1 H7 (by kernel_rfl) ?_
    refine t_gd false false (by kernel_rfl) (fun _ => ?_) (fun hn => by cases hn)
    refine t_op false (.fieldAddr 0 (.loc 0)) [.ptr qb0 qo1] H7 (.ptr qb0 qo1) H7 (by kernel_rfl) rfl ?_
    refine t_gd false false (by kernel_rfl) (fun _ => ?_) (fun hn => by cases hn)
    refine t_op false (.fieldAddr 1 (.loc 0)) [.ptr qb0 qo1] H7 (.ptr qb0 (qo1 + 1)) H7 (by kernel_rfl) rfl ?_
    refine t_gd false false (by kernel_rfl) (fun _ => ?_) (fun hn => by cases hn)
    obtain ⟨e9, hl, h⟩ := h
    refine t_load false none qb0 (qo1 + 1) e9 H7 (by kernel_rfl) hl ?_
    refine t_gd false false (by kernel_rfl) (fun _ => ?_) (fun hn => by cases hn)
    refine t_call true nslices_Contains__int_int [e9, (.int .i64 e3)] H7 (by kernel_rfl) h ?_
    clear h
    rintro _ H11 ⟨r10, rfl, h⟩
    refine t_gd r10 false (by kernel_rfl) (fun hc => ?_) (fun hc => ?_)
    · replace h := h.2 (is_raw.f hc)
      refine t_ptr false qb0 qo1 H11 (by kernel_rfl) ?_
      refine t_gd false false (by kernel_rfl) (fun _ => ?_) (fun hn => by cases hn)
      refine t_op false (.fieldAddr 0 (.loc 0)) [.ptr qb0 qo1] H11 (.ptr qb0 qo1) H11 (by kernel_rfl) rfl ?_
      refine t_gd false false (by kernel_rfl) (fun _ => ?_) (fun hn => by cases hn)
      refine t_op false (.fieldAddr 2 (.loc 0)) [.ptr qb0 qo1] H11 (.ptr qb0 (qo1 + 2)) H11 (by kernel_rfl) rfl ?_
      refine t_gd false false (by kernel_rfl) (fun _ => ?_) (fun hn => by cases hn)
      obtain ⟨e13, hl, h⟩ := h
      refine t_load false none qb0 (qo1 + 2) e13 H11 (by kernel_rfl) hl ?_
      refine t_gd false false (by kernel_rfl) (fun _ => ?_) (fun hn => by cases hn)
      refine t_call true nslices_Contains__int_int [e13, (.int .i64 e3)] H11 (by kernel_rfl) h ?_
      clear h
      rintro _ H15 ⟨r14, rfl, h⟩
      refine t_done [(.ptr qb0 qo1), (.agg [(.int .i64 e2), (.int .i64 e3), (.int .i64 e4)]), (.int .i64 0), (.agg [(.int .i64 e2), (.int .i64 e3), (.int .i64 e4)]), (.bool r14), .undef, .undef, .undef, .undef] H15 (by kernel_rfl) ?_
      refine then_norm ?_
      refine w_seq ?_
      refine w_block ?_
      refine w_seq ?_
      refine w_run [0, 0] ?_
      refine t_done [(.ptr qb0 qo1), (.agg [(.int .i64 e2), (.int .i64 e3), (.int .i64 e4)]), (.int .i64 0), (.agg [(.int .i64 e2), (.int .i64 e3), (.int .i64 e4)]), (.bool r14), (.bool r14), .undef, .undef, .undef] H15 (by kernel_rfl) ?_
      refine then_norm ?_
      refine w_cond (t := r14) rfl (fun hc => ?_) (fun hc => ?_)
      · replace h := h.1 (is_raw.t hc)
        refine w_seq ?_
        refine w_run [0] ?_
        refine t_done [(.ptr qb0 qo1), (.agg [(.int .i64 e2), (.int .i64 e3), (.int .i64 e4)]), (.int .i64 7), (.agg [(.int .i64 e2), (.int .i64 e3), (.int .i64 e4)]), (.bool r14), (.bool r14), .undef, .undef, .undef] H15 (by kernel_rfl) ?_
        refine then_norm ?_
        refine w_ret ?_
        refine block_ret ?_
        refine then_ret ?_
        exact body_ret (vs := [(.int .i64 7)]) _ (by kernel_rfl) rfl h
      · replace h := h.2 (is_raw.f hc)
        refine w_seq ?_
        refine w_run [0, 1, 1, 1, 1, 1, 0, 0] ?_
        refine t_ptr true qb0 qo1 H15 (by kernel_rfl) ?_
        refine t_op true (.fieldAddr 0 (.loc 0)) [.ptr qb0 qo1] H15 (.ptr qb0 qo1) H15 (by kernel_rfl) rfl ?_
        refine t_op true (.fieldAddr 0 (.loc 0)) [.ptr qb0 qo1] H15 (.ptr qb0 qo1) H15 (by kernel_rfl) rfl ?_
        obtain ⟨e17, hl, h⟩ := h
        refine t_load true none qb0 qo1 e17 H15 (by kernel_rfl) hl ?_
        obtain ⟨len18, hl, h⟩ := h
        refine t_len true e17 len18 H15 (by kernel_rfl) hl ?_
        refine t_done [(.ptr qb0 qo1), (.agg [(.int .i64 e2), (.int .i64 e3), (.int .i64 e4)]), (.int .i64 0), (.agg [(.int .i64 e2), (.int .i64 e3), (.int .i64 e4)]), (.bool r14), (.bool r14), (.bool (decide ((len18 : Int) ≥ 10))), .undef, .undef] H15 (by kernel_rfl) ?_
        refine then_norm ?_
        refine w_cond (t := (decide ((len18 : Int) ≥ 10))) rfl (fun hc => ?_) (fun hc => ?_)
        · replace h := h.1 (is_dec.t hc)
          refine w_seq ?_
          refine w_run [0] ?_
          refine t_done [(.ptr qb0 qo1), (.agg [(.int .i64 e2), (.int .i64 e3), (.int .i64 e4)]), (.int .i64 14), (.agg [(.int .i64 e2), (.int .i64 e3), (.int .i64 e4)]), (.bool r14), (.bool r14), (.bool (decide ((len18 : Int) ≥ 10))), .undef, .undef] H15 (by kernel_rfl) ?_
          refine then_norm ?_
          refine w_ret ?_
          refine block_ret ?_
          refine then_ret ?_
          exact body_ret (vs := [(.int .i64 14)]) _ (by kernel_rfl) rfl h
        · replace h := h.2 (is_dec.f hc)
          refine w_skip ?_
          refine block_norm ?_
          refine then_norm ?_
          refine w_seq ?_
          refine w_run [0] ?_
          refine t_done [(.ptr qb0 qo1), (.agg [(.int .i64 e2), (.int .i64 e3), (.int .i64 e4)]), (.int .i64 0), (.agg [(.int .i64 e2), (.int .i64 e3), (.int .i64 e4)]), (.bool r14), (.bool r14), (.bool (decide ((len18 : Int) ≥ 10))), (.int .i64 0), .undef] H15 (by kernel_rfl) ?_
          refine then_norm ?_
          refine w_seq ?_
          refine w_block ?_
          obtain ⟨J19, k20, h0, h⟩ := h
          refine w_loop (I := fun mI EI HI => ∃ (i22 : Int) (d23 : AV), EI = [(.ptr qb0 qo1), (.agg [(.int .i64 e2), (.int .i64 e3), (.int .i64 e4)]), (.int .i64 0), (.agg [(.int .i64 e2), (.int .i64 e3), (.int .i64 e4)]), (.bool r14), (.bool r14), (.bool (decide ((len18 : Int) ≥ 10))), (.int .i64 i22), d23] ∧ H15 = HI ∧ J19 mI i22) ?_ k20 ⟨_, _, rfl, rfl, h0⟩
          clear h0
          rintro m21 EI HI ⟨i22, d23, rfl, rfl, hJ⟩
          replace h := h m21 i22  hJ
          clear hJ
          refine w_seq ?_
          refine w_seq ?_
          refine w_run [0, 0, 1, 1, 1, 1, 1, 0, 0, 0, 3, 3, 3, 3, 0, 3, 3, 3, 0, 0, 2, 0] ?_
          refine t_ptr true qb0 qo1 H15 (by kernel_rfl) ?_
          refine t_op true (.fieldAddr 0 (.loc 0)) [.ptr qb0 qo1] H15 (.ptr qb0 qo1) H15 (by kernel_rfl) rfl ?_
          refine t_op true (.fieldAddr 0 (.loc 0)) [.ptr qb0 qo1] H15 (.ptr qb0 qo1) H15 (by kernel_rfl) rfl ?_
          obtain ⟨e24, hl, h⟩ := h
          refine t_load true none qb0 qo1 e24 H15 (by kernel_rfl) hl ?_
          obtain ⟨len25, hl, h⟩ := h
          refine t_len true e24 len25 H15 (by kernel_rfl) hl ?_
          refine t_gd (decide (i22 < (len25 : Int))) true (by kernel_rfl) (fun hc => ?_) (fun hc => ?_)
          · replace h := h.1 (is_dec.t hc)
            refine t_ptr false qb0 qo1 H15 (by kernel_rfl) ?_
            refine t_gd true true (by kernel_rfl) (fun _ => ?_) (fun hn => by cases hn)
            refine t_op false (.fieldAddr 0 (.loc 0)) [.ptr qb0 qo1] H15 (.ptr qb0 qo1) H15 (by kernel_rfl) rfl ?_
            refine t_gd true true (by kernel_rfl) (fun _ => ?_) (fun hn => by cases hn)
            refine t_op false (.fieldAddr 0 (.loc 0)) [.ptr qb0 qo1] H15 (.ptr qb0 qo1) H15 (by kernel_rfl) rfl ?_
            refine t_gd true true (by kernel_rfl) (fun _ => ?_) (fun hn => by cases hn)
            obtain ⟨e26, hl, h⟩ := h
            refine t_load false none qb0 qo1 e26 H15 (by kernel_rfl) hl ?_
            refine t_gd true true (by kernel_rfl) (fun _ => ?_) (fun hn => by cases hn)
            obtain ⟨e27, hg28, h⟩ := h
            refine t_idxG false 6 e26 .i64 i22 H15 (by kernel_rfl) hg28 ?_
            refine t_gd true true (by kernel_rfl) (fun _ => ?_) (fun hn => by cases hn)
            refine t_fldG false 1 6 e26 i22 0 H15 (by kernel_rfl) hg28 ?_
            refine t_gd true true (by kernel_rfl) (fun _ => ?_) (fun hn => by cases hn)
            refine t_loadG false none 6 e26 i22 1 (.int .i64 e27) H15 (by kernel_rfl) hg28 ?_
            refine t_gd true true (by kernel_rfl) (fun _ => ?_) (fun hn => by cases hn)
            refine t_done [(.ptr qb0 qo1), (.agg [(.int .i64 e2), (.int .i64 e3), (.int .i64 e4)]), (.int .i64 0), (.agg [(.int .i64 e2), (.int .i64 e3), (.int .i64 e4)]), (.bool r14), (.bool r14), (.bool (decide ((len18 : Int) ≥ 10))), (.int .i64 i22), (.bool (decide (e27 ≥ e4)))] H15 (by kernel_rfl) ?_
            refine then_norm ?_
            refine w_cond (t := (decide (e27 ≥ e4))) rfl (fun hc => ?_) (fun hc => ?_)
            · replace h := h.1 (is_dec.t hc)
              refine w_skip ?_
              refine then_norm ?_
              refine w_block ?_
              refine w_run [0, 0, 0] ?_
              refine t_done [(.ptr qb0 qo1), (.agg [(.int .i64 e2), (.int .i64 e3), (.int .i64 e4)]), (.int .i64 0), (.agg [(.int .i64 e2), (.int .i64 e3), (.int .i64 e4)]), (.bool r14), (.bool r14), (.bool (decide ((len18 : Int) ≥ 10))), (.int .i64 (IntKind.wrap .i64 (i22 + 1))), (.bool (decide (e27 ≥ e4)))] H15 (by kernel_rfl) ?_
              refine block_norm ?_
              obtain ⟨m', hm, h⟩ := h
              refine loop_norm ⟨m', hm, _, _, rfl, rfl, h⟩
            · replace h := h.2 (is_dec.f hc)
              refine w_exit ?_
              refine then_exit ?_
              refine loop_exit ?_
              refine block_exit ?_
              refine then_norm ?_
              refine w_seq ?_
              refine w_run [0, 0, 1, 1, 1, 1, 0, 0, 0, 0, 0, 1, 1, 1, 1, 1, 1, 1] ?_
              refine t_ptr false qb0 qo1 H15 (by kernel_rfl) ?_
              refine t_op false (.fieldAddr 0 (.loc 0)) [.ptr qb0 qo1] H15 (.ptr qb0 qo1) H15 (by kernel_rfl) rfl ?_
              refine t_op false (.fieldAddr 0 (.loc 0)) [.ptr qb0 qo1] H15 (.ptr qb0 qo1) H15 (by kernel_rfl) rfl ?_
              obtain ⟨e30, hl, h⟩ := h
              refine t_load false none qb0 qo1 e30 H15 (by kernel_rfl) hl ?_
              refine t_build false [(.int .i64 0), (.int .i64 0), (.bool false), (.bool false), (.bool false), .empty] [(0, 1, .loc 0), (1, 1, .loc 1)] [(.int .i64 e3), (.int .i64 e4)] [(.int .i64 e3), (.int .i64 e4), (.bool false), (.bool false), (.bool false), .empty] H15 (by kernel_rfl) (fill_c (vs := [(.int .i64 e3)]) (size := 1) rfl (by kernel_rfl) (by kernel_rfl) (fill_c (vs := [(.int .i64 e4)]) (size := 1) rfl (by kernel_rfl) (by kernel_rfl) (by kernel_rfl))) ?_
              obtain ⟨b31, H32, hb⟩ : ∃ b H', NewB H15 6 [(.int .i64 e3), (.int .i64 e4), (.bool false), (.bool false), (.bool false), .empty] b H' := ⟨_, _, rfl, rfl⟩
              replace h := h b31 H32 hb
              refine t_bs false 6 [(.int .i64 0), (.int .i64 0), (.bool false), (.bool false), (.bool false), .empty] [(0, 6, .loc 0)] 1 [(.agg [(.int .i64 e3), (.int .i64 e4), (.bool false), (.bool false), (.bool false), .empty])] [(.int .i64 e3), (.int .i64 e4), (.bool false), (.bool false), (.bool false), .empty] b31 H32 H15 (by kernel_rfl) (fill_c (vs := [(.int .i64 e3), (.int .i64 e4), (.bool false), (.bool false), (.bool false), .empty]) (size := 6) rfl (by kernel_rfl) (by kernel_rfl) (by kernel_rfl)) hb ?_
              refine t_call true nslices_Insert__api_QueueEntry_api_QueueEntry [e30, (.int .i64 i22), (.slice b31 0 1 (some 1))] H32 (by kernel_rfl) h ?_
              clear h
              rintro r33 H34 h
              refine t_ptr true qb0 qo1 H34 (by kernel_rfl) ?_
              refine t_op true (.fieldAddr 0 (.loc 0)) [.ptr qb0 qo1] H34 (.ptr qb0 qo1) H34 (by kernel_rfl) rfl ?_
              refine t_op true (.fieldAddr 0 (.loc 0)) [.ptr qb0 qo1] H34 (.ptr qb0 qo1) H34 (by kernel_rfl) rfl ?_
              obtain ⟨H36, hp, h⟩ := h
              refine t_store true 1 qb0 qo1 r33 H36 H34 (by kernel_rfl) hp ?_
              refine t_done [(.ptr qb0 qo1), (.agg [(.int .i64 e2), (.int .i64 e3), (.int .i64 e4)]), (.int .i64 0), (.agg [(.int .i64 e2), (.int .i64 e3), (.int .i64 e4)]), (.bool r14), (.bool r14), (.bool (decide ((len18 : Int) ≥ 10))), (.int .i64 i22), (.bool (decide (e27 ≥ e4)))] H36 (by kernel_rfl) ?_
              refine then_norm ?_
              refine w_seq ?_
              refine w_run [0, 0, 1] ?_
              refine t_call true nmergequeue_queue_reset [(.ptr qb0 qo1), (.int .i64 i22)] H36 (by kernel_rfl) h ?_
              clear h
              rintro _ H37 ⟨rfl, h⟩
              refine t_done [(.ptr qb0 qo1), (.agg [(.int .i64 e2), (.int .i64 e3), (.int .i64 e4)]), (.int .i64 0), (.agg [(.int .i64 e2), (.int .i64 e3), (.int .i64 e4)]), (.bool r14), (.bool r14), (.bool (decide ((len18 : Int) ≥ 10))), (.int .i64 i22), (.bool (decide (e27 ≥ e4)))] H37 (by kernel_rfl) ?_
              refine then_norm ?_
              refine w_seq ?_
              refine w_run [0] ?_
              refine t_done [(.ptr qb0 qo1), (.agg [(.int .i64 e2), (.int .i64 e3), (.int .i64 e4)]), (.int .i64 0), (.agg [(.int .i64 e2), (.int .i64 e3), (.int .i64 e4)]), (.bool r14), (.bool r14), (.bool (decide ((len18 : Int) ≥ 10))), (.int .i64 i22), (.bool (decide (e27 ≥ e4)))] H37 (by kernel_rfl) ?_
              refine then_norm ?_
              refine w_ret ?_
              exact body_ret (vs := [(.int .i64 0)]) _ (by kernel_rfl) rfl h
          · replace h := h.2 (is_dec.f hc)
            refine t_gd false true (by kernel_rfl) (fun hn => by cases hn) (fun _ => ?_)
            refine t_gd false true (by kernel_rfl) (fun hn => by cases hn) (fun _ => ?_)
            refine t_gd false true (by kernel_rfl) (fun hn => by cases hn) (fun _ => ?_)
            refine t_gd false true (by kernel_rfl) (fun hn => by cases hn) (fun _ => ?_)
            refine t_gd false true (by kernel_rfl) (fun hn => by cases hn) (fun _ => ?_)
            refine t_gd false true (by kernel_rfl) (fun hn => by cases hn) (fun _ => ?_)
            refine t_gd false true (by kernel_rfl) (fun hn => by cases hn) (fun _ => ?_)
            refine t_done [(.ptr qb0 qo1), (.agg [(.int .i64 e2), (.int .i64 e3), (.int .i64 e4)]), (.int .i64 0), (.agg [(.int .i64 e2), (.int .i64 e3), (.int .i64 e4)]), (.bool r14), (.bool r14), (.bool (decide ((len18 : Int) ≥ 10))), (.int .i64 i22), (.bool false)] H15 (by kernel_rfl) ?_
            refine then_norm ?_
            refine w_cond (t := false) rfl (fun hc => by cases hc) (fun _ => ?_)
            refine w_exit ?_
            refine then_exit ?_
            refine loop_exit ?_
            refine block_exit ?_
            refine then_norm ?_
            refine w_seq ?_
            refine w_run [0, 0, 1, 1, 1, 1, 0, 0, 0, 0, 0, 1, 1, 1, 1, 1, 1, 1] ?_
            refine t_ptr false qb0 qo1 H15 (by kernel_rfl) ?_
            refine t_op false (.fieldAddr 0 (.loc 0)) [.ptr qb0 qo1] H15 (.ptr qb0 qo1) H15 (by kernel_rfl) rfl ?_
            refine t_op false (.fieldAddr 0 (.loc 0)) [.ptr qb0 qo1] H15 (.ptr qb0 qo1) H15 (by kernel_rfl) rfl ?_
            obtain ⟨e39, hl, h⟩ := h
            refine t_load false none qb0 qo1 e39 H15 (by kernel_rfl) hl ?_
            refine t_build false [(.int .i64 0), (.int .i64 0), (.bool false), (.bool false), (.bool false), .empty] [(0, 1, .loc 0), (1, 1, .loc 1)] [(.int .i64 e3), (.int .i64 e4)] [(.int .i64 e3), (.int .i64 e4), (.bool false), (.bool false), (.bool false), .empty] H15 (by kernel_rfl) (fill_c (vs := [(.int .i64 e3)]) (size := 1) rfl (by kernel_rfl) (by kernel_rfl) (fill_c (vs := [(.int .i64 e4)]) (size := 1) rfl (by kernel_rfl) (by kernel_rfl) (by kernel_rfl))) ?_
            obtain ⟨b40, H41, hb⟩ : ∃ b H', NewB H15 6 [(.int .i64 e3), (.int .i64 e4), (.bool false), (.bool false), (.bool false), .empty] b H' := ⟨_, _, rfl, rfl⟩
            replace h := h b40 H41 hb
            refine t_bs false 6 [(.int .i64 0), (.int .i64 0), (.bool false), (.bool false), (.bool false), .empty] [(0, 6, .loc 0)] 1 [(.agg [(.int .i64 e3), (.int .i64 e4), (.bool false), (.bool false), (.bool false), .empty])] [(.int .i64 e3), (.int .i64 e4), (.bool false), (.bool false), (.bool false), .empty] b40 H41 H15 (by kernel_rfl) (fill_c (vs := [(.int .i64 e3), (.int .i64 e4), (.bool false), (.bool false), (.bool false), .empty]) (size := 6) rfl (by kernel_rfl) (by kernel_rfl) (by kernel_rfl)) hb ?_
            refine t_call true nslices_Insert__api_QueueEntry_api_QueueEntry [e39, (.int .i64 i22), (.slice b40 0 1 (some 1))] H41 (by kernel_rfl) h ?_
            clear h
            rintro r42 H43 h
            refine t_ptr true qb0 qo1 H43 (by kernel_rfl) ?_
            refine t_op true (.fieldAddr 0 (.loc 0)) [.ptr qb0 qo1] H43 (.ptr qb0 qo1) H43 (by kernel_rfl) rfl ?_
            refine t_op true (.fieldAddr 0 (.loc 0)) [.ptr qb0 qo1] H43 (.ptr qb0 qo1) H43 (by kernel_rfl) rfl ?_
            obtain ⟨H45, hp, h⟩ := h
            refine t_store true 1 qb0 qo1 r42 H45 H43 (by kernel_rfl) hp ?_
            refine t_done [(.ptr qb0 qo1), (.agg [(.int .i64 e2), (.int .i64 e3), (.int .i64 e4)]), (.int .i64 0), (.agg [(.int .i64 e2), (.int .i64 e3), (.int .i64 e4)]), (.bool r14), (.bool r14), (.bool (decide ((len18 : Int) ≥ 10))), (.int .i64 i22), (.bool false)] H45 (by kernel_rfl) ?_
            refine then_norm ?_
            refine w_seq ?_
            refine w_run [0, 0, 1] ?_
            refine t_call true nmergequeue_queue_reset [(.ptr qb0 qo1), (.int .i64 i22)] H45 (by kernel_rfl) h ?_
            clear h
            rintro _ H46 ⟨rfl, h⟩
            refine t_done [(.ptr qb0 qo1), (.agg [(.int .i64 e2), (.int .i64 e3), (.int .i64 e4)]), (.int .i64 0), (.agg [(.int .i64 e2), (.int .i64 e3), (.int .i64 e4)]), (.bool r14), (.bool r14), (.bool (decide ((len18 : Int) ≥ 10))), (.int .i64 i22), (.bool false)] H46 (by kernel_rfl) ?_
            refine then_norm ?_
            refine w_seq ?_
            refine w_run [0] ?_
            refine t_done [(.ptr qb0 qo1), (.agg [(.int .i64 e2), (.int .i64 e3), (.int .i64 e4)]), (.int .i64 0), (.agg [(.int .i64 e2), (.int .i64 e3), (.int .i64 e4)]), (.bool r14), (.bool r14), (.bool (decide ((len18 : Int) ≥ 10))), (.int .i64 i22), (.bool false)] H46 (by kernel_rfl) ?_
            refine then_norm ?_
            refine w_ret ?_
            exact body_ret (vs := [(.int .i64 0)]) _ (by kernel_rfl) rfl h
    · replace h := h.1 (is_raw.t hc)
      refine t_gd true false (by kernel_rfl) (fun hn => by cases hn) (fun _ => ?_)
      refine t_gd true false (by kernel_rfl) (fun hn => by cases hn) (fun _ => ?_)
      refine t_gd true false (by kernel_rfl) (fun hn => by cases hn) (fun _ => ?_)
      refine t_gd true false (by kernel_rfl) (fun hn => by cases hn) (fun _ => ?_)
      refine t_done [(.ptr qb0 qo1), (.agg [(.int .i64 e2), (.int .i64 e3), (.int .i64 e4)]), (.int .i64 0), (.agg [(.int .i64 e2), (.int .i64 e3), (.int .i64 e4)]), (.bool true), .undef, .undef, .undef, .undef] H11 (by kernel_rfl) ?_
      refine then_norm ?_
      refine w_seq ?_
      refine w_block ?_
      refine w_seq ?_
      refine w_run [0, 0] ?_
      refine t_done [(.ptr qb0 qo1), (.agg [(.int .i64 e2), (.int .i64 e3), (.int .i64 e4)]), (.int .i64 0), (.agg [(.int .i64 e2), (.int .i64 e3), (.int .i64 e4)]), (.bool true), (.bool true), .undef, .undef, .undef] H11 (by kernel_rfl) ?_
      refine then_norm ?_
      refine w_cond (t := true) rfl (fun _ => ?_) (fun hc => by cases hc)
      refine w_seq ?_
      refine w_run [0] ?_
      refine t_done [(.ptr qb0 qo1), (.agg [(.int .i64 e2), (.int .i64 e3), (.int .i64 e4)]), (.int .i64 7), (.agg [(.int .i64 e2), (.int .i64 e3), (.int .i64 e4)]), (.bool true), (.bool true), .undef, .undef, .undef] H11 (by kernel_rfl) ?_
      refine then_norm ?_
      refine w_ret ?_
      refine block_ret ?_
      refine then_ret ?_
      exact body_ret (vs := [(.int .i64 7)]) _ (by kernel_rfl) rfl h
  · replace h := h.1 (is_dec.t hc)
    refine t_gd true false (by kernel_rfl) (fun hn => by cases hn) (fun _ => ?_)
    refine t_gd true false (by kernel_rfl) (fun hn => by cases hn) (fun _ => ?_)
    refine t_gd true false (by kernel_rfl) (fun hn => by cases hn) (fun _ => ?_)
    refine t_gd true false (by kernel_rfl) (fun hn => by cases hn) (fun _ => ?_)
    refine t_gd true false (by kernel_rfl) (fun hn => by cases hn) (fun _ => ?_)
    refine t_gd true false (by kernel_rfl) (fun hn => by cases hn) (fun _ => ?_)
    refine t_gd true false (by kernel_rfl) (fun hn => by cases hn) (fun _ => ?_)
    refine t_gd true false (by kernel_rfl) (fun hn => by cases hn) (fun _ => ?_)
    refine t_gd true false (by kernel_rfl) (fun hn => by cases hn) (fun _ => ?_)
    refine t_done [(.ptr qb0 qo1), (.agg [(.int .i64 e2), (.int .i64 e3), (.int .i64 e4)]), (.int .i64 0), (.agg [(.int .i64 e2), (.int .i64 e3), (.int .i64 e4)]), (.bool true), .undef, .undef, .undef, .undef] H7 (by kernel_rfl) ?_
    refine then_norm ?_
    refine w_seq ?_
    refine w_block ?_
    refine w_seq ?_
    refine w_run [0, 0] ?_
    refine t_done [(.ptr qb0 qo1), (.agg [(.int .i64 e2), (.int .i64 e3), (.int .i64 e4)]), (.int .i64 0), (.agg [(.int .i64 e2), (.int .i64 e3), (.int .i64 e4)]), (.bool true), (.bool true), .undef, .undef, .undef] H7 (by kernel_rfl) ?_
    refine then_norm ?_
    refine w_cond (t := true) rfl (fun _ => ?_) (fun hc => by cases hc)
    refine w_seq ?_
    refine w_run [0] ?_
    refine t_done [(.ptr qb0 qo1), (.agg [(.int .i64 e2), (.int .i64 e3), (.int .i64 e4)]), (.int .i64 7), (.agg [(.int .i64 e2), (.int .i64 e3), (.int .i64 e4)]), (.bool true), (.bool true), .undef, .undef, .undef] H7 (by kernel_rfl) ?_
    refine then_norm ?_
    refine w_ret ?_
    refine block_ret ?_
    refine then_ret ?_
    exact body_ret (vs := [(.int .i64 7)]) _ (by kernel_rfl) rfl h

def rf_mergequeue_queue_step (nmergequeue_queue_add nmergequeue_queue_find nmergequeue_queue_remove : Nat) : RFunc := ⟨2, 13, [.var 2],
 ((.seq (.ops [⟨.tomb 1 (.var 1), none, (some 3), true⟩, ⟨.move (.k (.int .i64 0)), none, (some 2), true⟩])
 ((.seq (.block 0 ((.seq (.ops [o1 (.field 0 none (.var 3)), o1 (.field 0 none (.var 3)), o1 (.bin .lss .no (.loc 1) (.k (.int .i64 1))), o1 (.move (.loc 2)), o1 (.field 0 none (.var 3)), o1 (.field 0 none (.var 3)), o1 (.bin .gtr .no (.loc 5) (.k (.int .i64 4))), o1 (.pick (.loc 3) (.k (.bool true)) (.loc 6)), ⟨.move (.loc 7), none, (some 4), true⟩])
 (.cond (.var 4) ((.seq (.ops [⟨.move (.k (.int .i64 4)), none, (some 2), true⟩])
 (.ret))) ((.seq (.ops [o1 (.field 0 none (.var 3)), o1 (.field 1 none (.var 3)), o1 (.bin .lss .no (.loc 1) (.k (.int .i64 1))), o1 (.move (.loc 2)), o1 (.field 0 none (.var 3)), o1 (.field 1 none (.var 3)), o1 (.bin .gtr .no (.loc 5) (.k (.int .i64 1000000000))), o1 (.pick (.loc 3) (.k (.bool true)) (.loc 6)), o1 (.move (.loc 7)), o1 (.field 0 none (.var 3)), o1 (.field 2 none (.var 3)), o1 (.bin .lss .no (.loc 10) (.k (.int .i64 0))), o1 (.pick (.loc 8) (.k (.bool true)) (.loc 11)), o1 (.move (.loc 12)), o1 (.field 0 none (.var 3)), o1 (.field 2 none (.var 3)), o1 (.bin .gtr .no (.loc 15) (.k (.int .i64 3))), o1 (.pick (.loc 13) (.k (.bool true)) (.loc 16)), ⟨.move (.loc 17), none, (some 5), true⟩])
 (.cond (.var 5) ((.seq (.ops [⟨.move (.k (.int .i64 3)), none, (some 2), true⟩])
 (.ret))) ((.seq (.ops [o1 (.field 0 none (.var 3)), o1 (.field 0 none (.var 3)), o1 (.bin .neq .no (.loc 1) (.k (.int .i64 1))), o1 (.move (.loc 2)), o1 (.field 0 none (.var 3)), o1 (.field 2 none (.var 3)), o1 (.bin .neq .no (.loc 5) (.k (.int .i64 0))), o1 (.pick (.loc 3) (.loc 6) (.k (.bool false))), ⟨.move (.loc 7), none, (some 6), true⟩])
 (.cond (.var 6) ((.seq (.ops [⟨.move (.k (.int .i64 5)), none, (some 2), true⟩])
 (.ret))) ((.seq (.ops [o1 (.field 0 none (.var 3)), o1 (.field 0 none (.var 3)), o1 (.bin .eql .no (.loc 1) (.k (.int .i64 1))), ⟨.move (.loc 2), none, (some 7), true⟩])
 (.cond (.var 7) ((.seq (.ops [o1 (.move (.var 0)), o1 (.field 0 (some 3) (.var 3)), o1 (.callS nmergequeue_queue_add [(.loc 0), (.loc 1)]), ⟨.move (.loc 2), none, (some 2), true⟩])
 (.ret))) (.skip))))))))))))))
 ((.seq (.ops [o1 (.move (.var 0)), o1 (.field 0 none (.var 3)), o1 (.field 1 none (.var 3)), o1 (.callS nmergequeue_queue_find [(.loc 0), (.loc 2)]), ⟨.move (.loc 3), none, (some 8), true⟩])
 ((.seq (.block 1 ((.seq (.ops [o1 (.move (.var 8)), o1 (.bin .lss .no (.loc 0) (.k (.int .i64 0))), ⟨.move (.loc 1), none, (some 9), true⟩])
 (.cond (.var 9) ((.seq (.ops [⟨.move (.k (.int .i64 6)), none, (some 2), true⟩])
 (.ret))) ((.seq (.ops [o1 (.field 0 none (.var 3)), o1 (.field 0 none (.var 3)), o1 (.bin .eql .no (.loc 1) (.k (.int .i64 2))), ⟨.move (.loc 2), none, (some 10), true⟩])
 (.cond (.var 10) (.ops [o1 (.move (.var 0)), o1 (.move (.var 8)), o1 (.callS nmergequeue_queue_remove [(.loc 0), (.loc 1)])]) ((.seq (.ops [o1 (.move (.var 0)), o1 (.nilCheck (.loc 0)), o1 (.fieldAddr 0 (.loc 1)), o1 (.fieldAddr 0 (.loc 2)), o1 (.load none (.loc 3)), o1 (.move (.var 8)), o1 (.indexAddr 6 (.loc 4) (.loc 5)), o1 (.fieldAddr 2 (.loc 6)), o1 (.load none (.loc 7)), o1 (.un .not (.loc 8)), ⟨.move (.loc 9), none, (some 11), true⟩])
 (.cond (.var 11) ((.seq (.ops [⟨.move (.k (.int .i64 11)), none, (some 2), true⟩])
 (.ret))) ((.seq (.ops [o1 (.move (.var 0)), o1 (.nilCheck (.loc 0)), o1 (.fieldAddr 0 (.loc 1)), o1 (.fieldAddr 0 (.loc 2)), o1 (.load none (.loc 3)), o1 (.move (.var 8)), o1 (.indexAddr 6 (.loc 4) (.loc 5)), ⟨.move (.loc 6), none, (some 12), true⟩])
 (.ops [⟨.move (.var 12), none, none, false⟩, ⟨.move (.var 12), none, none, false⟩, ⟨.move (.var 12), none, none, false⟩, ⟨.field 0 none (.var 3), none, none, false⟩, ⟨.field 0 none (.var 3), none, none, false⟩, ⟨.bin .eql .no (.loc 4) (.k (.int .i64 3)), none, none, false⟩, ⟨.field 0 none (.var 3), none, none, false⟩, ⟨.field 0 none (.var 3), none, none, false⟩, ⟨.bin .eql .no (.loc 7) (.k (.int .i64 4)), none, none, false⟩, ⟨.nilCheck (.loc 0), none, none, false⟩, ⟨.fieldAddr 2 (.loc 9), none, none, false⟩, ⟨.store 1 (.loc 10) (.k (.bool false)) [(.var 3)], none, none, false⟩, ⟨.nilCheck (.loc 1), none, none, false⟩, ⟨.fieldAddr 3 (.loc 12), none, none, false⟩, ⟨.store 1 (.loc 13) (.loc 5) [(.var 3)], none, none, false⟩, o1 (.nilCheck (.loc 2)), o1 (.fieldAddr 4 (.loc 15)), o1 (.store 1 (.loc 16) (.loc 8) [])])))))))))))))
 ((.seq (.ops [⟨.move (.k (.int .i64 0)), none, (some 2), true⟩])
 (.ret))))))))))), none⟩
theorem v_mergequeue_queue_step {F : Nat → Option RFunc} {me nmergequeue_queue_add nmergequeue_queue_find nmergequeue_queue_remove : Nat} (hF : F me = some (rf_mergequeue_queue_step nmergequeue_queue_add nmergequeue_queue_find nmergequeue_queue_remove)) {fl : Nat} {H : Heap} {Q : AV → Heap → Prop} (qb0 : Nat) (qo1 : Nat) (e2 : Int) (e3 : Int) (e4 : Int)
  (h : ∀ (H5 : Heap), Dead1 H 1 H5 → ((((e2 < 1) ∨ (e2 > 4))) → Q (.int .i64 4) H5) ∧ (¬(((e2 < 1) ∨ (e2 > 4))) → ((((((((e3 < 1) ∨ (e3 > 1000000000))) ∨ (e4 < 0))) ∨ (e4 > 3))) → Q (.int .i64 3) H5) ∧ (¬(((((((e3 < 1) ∨ (e3 > 1000000000))) ∨ (e4 < 0))) ∨ (e4 > 3))) → ((((e2 ≠ 1) ∧ (e4 ≠ 0))) → Q (.int .i64 5) H5) ∧ (¬(((e2 ≠ 1) ∧ (e4 ≠ 0))) → ((e2 = 1) → Ret F fl nmergequeue_queue_add [(.ptr qb0 qo1), (.agg [(.int .i64 e2), (.int .i64 e3), (.int .i64 e4)])] H5 (fun v8 H7 => ∃ (r6 : Int), v8 = (.int .i64 r6) ∧ Q (.int .i64 r6) H7)) ∧ (¬(e2 = 1) → Ret F fl nmergequeue_queue_find [(.ptr qb0 qo1), (.int .i64 e3)] H5 (fun v11 H10 => ∃ (r9 : Int), v11 = (.int .i64 r9) ∧ ((r9 < 0) → Q (.int .i64 6) H10) ∧ (¬(r9 < 0) → ((e2 = 2) → Ret F fl nmergequeue_queue_remove [(.ptr qb0 qo1), (.int .i64 r9)] H10 (fun v13 H12 => v13 = .undef ∧ Q (.int .i64 0) H12)) ∧ (¬(e2 = 2) → ∃ (e14 : AV), rload H10 none qb0 qo1 = some e14 ∧ ∃ (e15 : Bool), getA H10 6 none e14 r9 2 = some (.bool e15) ∧ ((¬(e15 = true)) → Q (.int .i64 11) H10) ∧ (¬(¬(e15 = true)) → ∃ (e17 : AV), rload H10 none qb0 qo1 = some e17 ∧ ∃ b18 o19 : Nat, ptrA 6 e17 r9 = some (b18, o19) ∧ ∃ H20 : Heap, putA fl H10 b18 (o19 + 2) 1 (.bool false) = some H20 ∧ ∃ H21 : Heap, putA fl H20 b18 (o19 + 3) 1 (.bool ((e2) == 3)) = some H21 ∧ ∃ H22 : Heap, putA fl H21 b18 (o19 + 4) 1 (.bool ((e2) == 4)) = some H22 ∧ Q (.int .i64 0) H22))))))))) : Ret F fl me [(.ptr qb0 qo1), (.agg [(.int .i64 e2), (.int .i64 e3), (.int .i64 e4)])] H Q := by
  refine ret_intro hF rfl ?_
  refine w_seq ?_
  refine w_run [1, 0] ?_
  obtain ⟨H5, hb⟩ : ∃ H', Dead1 H 1 H' := ⟨_, ⟨rfl⟩⟩
  replace h := h H5 hb
  refine t_tomb true 1 (.agg [(.int .i64 e2), (.int .i64 e3), (.int .i64 e4)]) [(.int .i64 e2), (.int .i64 e3), (.int .i64 e4)] H5 H (by kernel_rfl) rfl hb ?_
  refine t_done [(.ptr qb0 qo1), (.agg [(.int .i64 e2), (.int .i64 e3), (.int .i64 e4)]), (.int .i64 0), (.agg [(.int .i64 e2), (.int .i64 e3), (.int .i64 e4)]), .undef, .undef, .undef, .undef, .undef, .undef, .undef, .undef, .undef] H5 (by kernel_rfl) ?_
  refine then_norm ?_
  refine w_seq ?_
  refine w_block ?_
  refine w_seq ?_
  refine w_run [0, 0, 0, 0, 0, 0, 0, 0, 0] ?_
  refine t_done [(.ptr qb0 qo1), (.agg [(.int .i64 e2), (.int .i64 e3), (.int .i64 e4)]), (.int .i64 0), (.agg [(.int .i64 e2), (.int .i64 e3), (.int .i64 e4)]), (.bool ((decide (e2 < 1)) || (decide (e2 > 4)))), .undef, .undef, .undef, .undef, .undef, .undef, .undef, .undef] H5 (by kernel_rfl) ?_
  refine then_norm ?_
  refine w_cond (t := ((decide (e2 < 1)) || (decide (e2 > 4)))) rfl (fun hc => ?_) (fun hc => ?_)
  · replace h := h.1 ((is_or is_dec is_dec).t hc)
    refine w_seq ?_
    refine w_run [0] ?_
    refine t_done [(.ptr qb0 qo1), (.agg [(.int .i64 e2), (.int .i64 e3), (.int .i64 e4)]), (.int .i64 4), (.agg [(.int .i64 e2), (.int .i64 e3), (.int .i64 e4)]), (.bool ((decide (e2 < 1)) || (decide (e2 > 4)))), .undef, .undef, .undef, .undef, .undef, .undef, .undef, .undef] H5 (by kernel_rfl) ?_
    refine then_norm ?_
    refine w_ret ?_
    refine block_ret ?_
    refine then_ret ?_
    exact body_ret (vs := [(.int .i64 4)]) _ (by kernel_rfl) rfl h
  · replace h := h.2 ((is_or is_dec is_dec).f hc)
    refine w_seq ?_
    refine w_run [0, 0, 0, 0, 0, 0, 0, 0, 0, 0, 0, 0, 0, 0, 0, 0, 0, 0, 0] ?_
    refine t_done [(.ptr qb0 qo1), (.agg [(.int .i64 e2), (.int .i64 e3), (.int .i64 e4)]), (.int .i64 0), (.agg [(.int .i64 e2), (.int .i64 e3), (.int .i64 e4)]), (.bool ((decide (e2 < 1)) || (decide (e2 > 4)))), (.bool ((((decide (e3 < 1)) || (decide (e3 > 1000000000))) || (decide (e4 < 0))) || (decide (e4 > 3)))), .undef, .undef, .undef, .undef, .undef, .undef, .undef] H5 (by kernel_rfl) ?_
    refine then_norm ?_
    refine w_cond (t := ((((decide (e3 < 1)) || (decide (e3 > 1000000000))) || (decide (e4 < 0))) || (decide (e4 > 3)))) rfl (fun hc => ?_) (fun hc => ?_)
    · replace h := h.1 ((is_or (is_or (is_or is_dec is_dec) is_dec) is_dec).t hc)
      refine w_seq ?_
      refine w_run [0] ?_
      refine t_done [(.ptr qb0 qo1), (.agg [(.int .i64 e2), (.int .i64 e3), (.int .i64 e4)]), (.int .i64 3), (.agg [(.int .i64 e2), (.int .i64 e3), (.int .i64 e4)]), (.bool ((decide (e2 < 1)) || (decide (e2 > 4)))), (.bool ((((decide (e3 < 1)) || (decide (e3 > 1000000000))) || (decide (e4 < 0))) || (decide (e4 > 3)))), .undef, .undef, .undef, .undef, .undef, .undef, .undef] H5 (by kernel_rfl) ?_
      refine then_norm ?_
      refine w_ret ?_
      refine block_ret ?_
      refine then_ret ?_
      exact body_ret (vs := [(.int .i64 3)]) _ (by kernel_rfl) rfl h
    · replace h := h.2 ((is_or (is_or (is_or is_dec is_dec) is_dec) is_dec).f hc)
      refine w_seq ?_
      refine w_run [0, 0, 0, 0, 0, 0, 0, 0, 0] ?_
      refine t_done [(.ptr qb0 qo1), (.agg [(.int .i64 e2), (.int .i64 e3), (.int .i64 e4)]), (.int .i64 0), (.agg [(.int .i64 e2), (.int .i64 e3), (.int .i64 e4)]), (.bool ((decide (e2 < 1)) || (decide (e2 > 4)))), (.bool ((((decide (e3 < 1)) || (decide (e3 > 1000000000))) || (decide (e4 < 0))) || (decide (e4 > 3)))), (.bool (((e2) != 1) && ((e4) != 0))), .undef, .undef, .undef, .undef, .undef, .undef] H5 (by kernel_rfl) ?_
      refine then_norm ?_
      refine w_cond (t := (((e2) != 1) && ((e4) != 0))) rfl (fun hc => ?_) (fun hc => ?_)
      · replace h := h.1 ((is_and is_ne is_ne).t hc)
        refine w_seq ?_
        refine w_run [0] ?_
        refine t_done [(.ptr qb0 qo1), (.agg [(.int .i64 e2), (.int .i64 e3), (.int .i64 e4)]), (.int .i64 5), (.agg [(.int .i64 e2), (.int .i64 e3), (.int .i64 e4)]), (.bool ((decide (e2 < 1)) || (decide (e2 > 4)))), (.bool ((((decide (e3 < 1)) || (decide (e3 > 1000000000))) || (decide (e4 < 0))) || (decide (e4 > 3)))), (.bool (((e2) != 1) && ((e4) != 0))), .undef, .undef, .undef, .undef, .undef, .undef] H5 (by kernel_rfl) ?_
        refine then_norm ?_
        refine w_ret ?_
        refine block_ret ?_
        refine then_ret ?_
        exact body_ret (vs := [(.int .i64 5)]) _ (by kernel_rfl) rfl h
      · replace h := h.2 ((is_and is_ne is_ne).f hc)
        refine w_seq ?_
        refine w_run [0, 0, 0, 0] ?_
        refine t_done [(.ptr qb0 qo1), (.agg [(.int .i64 e2), (.int .i64 e3), (.int .i64 e4)]), (.int .i64 0), (.agg [(.int .i64 e2), (.int .i64 e3), (.int .i64 e4)]), (.bool ((decide (e2 < 1)) || (decide (e2 > 4)))), (.bool ((((decide (e3 < 1)) || (decide (e3 > 1000000000))) || (decide (e4 < 0))) || (decide (e4 > 3)))), (.bool (((e2) != 1) && ((e4) != 0))), (.bool ((e2) == 1)), .undef, .undef, .undef, .undef, .undef] H5 (by kernel_rfl) ?_
        refine then_norm ?_
        refine w_cond (t := ((e2) == 1)) rfl (fun hc => ?_) (fun hc => ?_)
        · replace h := h.1 (is_eq.t hc)
          refine w_seq ?_
          refine w_run [0, 0, 1, 0] ?_
          refine t_call true nmergequeue_queue_add [(.ptr qb0 qo1), (.agg [(.int .i64 e2), (.int .i64 e3), (.int .i64 e4)])] H5 (by kernel_rfl) h ?_
          clear h
          rintro _ H7 ⟨r6, rfl, h⟩
          refine t_done [(.ptr qb0 qo1), (.agg [(.int .i64 e2), (.int .i64 e3), (.int .i64 e4)]), (.int .i64 r6), (.agg [(.int .i64 e2), (.int .i64 e3), (.int .i64 e4)]), (.bool ((decide (e2 < 1)) || (decide (e2 > 4)))), (.bool ((((decide (e3 < 1)) || (decide (e3 > 1000000000))) || (decide (e4 < 0))) || (decide (e4 > 3)))), (.bool (((e2) != 1) && ((e4) != 0))), (.bool ((e2) == 1)), .undef, .undef, .undef, .undef, .undef] H7 (by kernel_rfl) ?_
          refine then_norm ?_
          refine w_ret ?_
          refine block_ret ?_
          refine then_ret ?_
          exact body_ret (vs := [(.int .i64 r6)]) _ (by kernel_rfl) rfl h
        · replace h := h.2 (is_eq.f hc)
          refine w_skip ?_
          refine block_norm ?_
          refine then_norm ?_
          refine w_seq ?_
          refine w_run [0, 0, 0, 1, 0] ?_
          refine t_call true nmergequeue_queue_find [(.ptr qb0 qo1), (.int .i64 e3)] H5 (by kernel_rfl) h ?_
          clear h
          rintro _ H10 ⟨r9, rfl, h⟩
          refine t_done [(.ptr qb0 qo1), (.agg [(.int .i64 e2), (.int .i64 e3), (.int .i64 e4)]), (.int .i64 0), (.agg [(.int .i64 e2), (.int .i64 e3), (.int .i64 e4)]), (.bool ((decide (e2 < 1)) || (decide (e2 > 4)))), (.bool ((((decide (e3 < 1)) || (decide (e3 > 1000000000))) || (decide (e4 < 0))) || (decide (e4 > 3)))), (.bool (((e2) != 1) && ((e4) != 0))), (.bool ((e2) == 1)), (.int .i64 r9), .undef, .undef, .undef, .undef] H10 (by kernel_rfl) ?_
          refine then_norm ?_
          refine w_seq ?_
          refine w_block ?_
          refine w_seq ?_
          refine w_run [0, 0, 0] ?_
          refine t_done [(.ptr qb0 qo1), (.agg [(.int .i64 e2), (.int .i64 e3), (.int .i64 e4)]), (.int .i64 0), (.agg [(.int .i64 e2), (.int .i64 e3), (.int .i64 e4)]), (.bool ((decide (e2 < 1)) || (decide (e2 > 4)))), (.bool ((((decide (e3 < 1)) || (decide (e3 > 1000000000))) || (decide (e4 < 0))) || (decide (e4 > 3)))), (.bool (((e2) != 1) && ((e4) != 0))), (.bool ((e2) == 1)), (.int .i64 r9), (.bool (decide (r9 < 0))), .undef, .undef, .undef] H10 (by kernel_rfl) ?_
          refine then_norm ?_
          refine w_cond (t := (decide (r9 < 0))) rfl (fun hc => ?_) (fun hc => ?_)
          · replace h := h.1 (is_dec.t hc)
            refine w_seq ?_
            refine w_run [0] ?_
            refine t_done [(.ptr qb0 qo1), (.agg [(.int .i64 e2), (.int .i64 e3), (.int .i64 e4)]), (.int .i64 6), (.agg [(.int .i64 e2), (.int .i64 e3), (.int .i64 e4)]), (.bool ((decide (e2 < 1)) || (decide (e2 > 4)))), (.bool ((((decide (e3 < 1)) || (decide (e3 > 1000000000))) || (decide (e4 < 0))) || (decide (e4 > 3)))), (.bool (((e2) != 1) && ((e4) != 0))), (.bool ((e2) == 1)), (.int .i64 r9), (.bool (decide (r9 < 0))), .undef, .undef, .undef] H10 (by kernel_rfl) ?_
            refine then_norm ?_
            refine w_ret ?_
            refine block_ret ?_
            refine then_ret ?_
            exact body_ret (vs := [(.int .i64 6)]) _ (by kernel_rfl) rfl h
          · replace h := h.2 (is_dec.f hc)
            refine w_seq ?_
            refine w_run [0, 0, 0, 0] ?_
            refine t_done [(.ptr qb0 qo1), (.agg [(.int .i64 e2), (.int .i64 e3), (.int .i64 e4)]), (.int .i64 0), (.agg [(.int .i64 e2), (.int .i64 e3), (.int .i64 e4)]), (.bool ((decide (e2 < 1)) || (decide (e2 > 4)))), (.bool ((((decide (e3 < 1)) || (decide (e3 > 1000000000))) || (decide (e4 < 0))) || (decide (e4 > 3)))), (.bool (((e2) != 1) && ((e4) != 0))), (.bool ((e2) == 1)), (.int .i64 r9), (.bool (decide (r9 < 0))), (.bool ((e2) == 2)), .undef, .undef] H10 (by kernel_rfl) ?_
            refine then_norm ?_
            refine w_cond (t := ((e2) == 2)) rfl (fun hc => ?_) (fun hc => ?_)
            · replace h := h.1 (is_eq.t hc)
              refine w_run [0, 0, 1] ?_
              refine t_call true nmergequeue_queue_remove [(.ptr qb0 qo1), (.int .i64 r9)] H10 (by kernel_rfl) h ?_
              clear h
              rintro _ H12 ⟨rfl, h⟩
              refine t_done [(.ptr qb0 qo1), (.agg [(.int .i64 e2), (.int .i64 e3), (.int .i64 e4)]), (.int .i64 0), (.agg [(.int .i64 e2), (.int .i64 e3), (.int .i64 e4)]), (.bool ((decide (e2 < 1)) || (decide (e2 > 4)))), (.bool ((((decide (e3 < 1)) || (decide (e3 > 1000000000))) || (decide (e4 < 0))) || (decide (e4 > 3)))), (.bool (((e2) != 1) && ((e4) != 0))), (.bool ((e2) == 1)), (.int .i64 r9), (.bool (decide (r9 < 0))), (.bool ((e2) == 2)), .undef, .undef] H12 (by kernel_rfl) ?_
              refine block_norm ?_
              refine then_norm ?_
              refine w_seq ?_
              refine w_run [0] ?_
              refine t_done [(.ptr qb0 qo1), (.agg [(.int .i64 e2), (.int .i64 e3), (.int .i64 e4)]), (.int .i64 0), (.agg [(.int .i64 e2), (.int .i64 e3), (.int .i64 e4)]), (.bool ((decide (e2 < 1)) || (decide (e2 > 4)))), (.bool ((((decide (e3 < 1)) || (decide (e3 > 1000000000))) || (decide (e4 < 0))) || (decide (e4 > 3)))), (.bool (((e2) != 1) && ((e4) != 0))), (.bool ((e2) == 1)), (.int .i64 r9), (.bool (decide (r9 < 0))), (.bool ((e2) == 2)), .undef, .undef] H12 (by kernel_rfl) ?_
              refine then_norm ?_
              refine w_ret ?_
              exact body_ret (vs := [(.int .i64 0)]) _ (by kernel_rfl) rfl h
            · replace h := h.2 (is_eq.f hc)
              refine w_seq ?_
              refine w_run [0, 1, 1, 1, 1, 0, 1, 1, 1, 0, 0] ?_
              refine t_ptr true qb0 qo1 H10 (by kernel_rfl) ?_
              refine t_op true (.fieldAddr 0 (.loc 0)) [.ptr qb0 qo1] H10 (.ptr qb0 qo1) H10 (by kernel_rfl) rfl ?_
              refine t_op true (.fieldAddr 0 (.loc 0)) [.ptr qb0 qo1] H10 (.ptr qb0 qo1) H10 (by kernel_rfl) rfl ?_
              obtain ⟨e14, hl, h⟩ := h
              refine t_load true none qb0 qo1 e14 H10 (by kernel_rfl) hl ?_
              obtain ⟨e15, hg16, h⟩ := h
              refine t_idxG true 6 e14 .i64 r9 H10 (by kernel_rfl) hg16 ?_
              refine t_fldG true 2 6 e14 r9 0 H10 (by kernel_rfl) hg16 ?_
              refine t_loadG true none 6 e14 r9 2 (.bool e15) H10 (by kernel_rfl) hg16 ?_
              refine t_done [(.ptr qb0 qo1), (.agg [(.int .i64 e2), (.int .i64 e3), (.int .i64 e4)]), (.int .i64 0), (.agg [(.int .i64 e2), (.int .i64 e3), (.int .i64 e4)]), (.bool ((decide (e2 < 1)) || (decide (e2 > 4)))), (.bool ((((decide (e3 < 1)) || (decide (e3 > 1000000000))) || (decide (e4 < 0))) || (decide (e4 > 3)))), (.bool (((e2) != 1) && ((e4) != 0))), (.bool ((e2) == 1)), (.int .i64 r9), (.bool (decide (r9 < 0))), (.bool ((e2) == 2)), (.bool (!e15)), .undef] H10 (by kernel_rfl) ?_
              refine then_norm ?_
              refine w_cond (t := (!e15)) rfl (fun hc => ?_) (fun hc => ?_)
              · replace h := h.1 ((is_not is_raw).t hc)
                refine w_seq ?_
                refine w_run [0] ?_
                refine t_done [(.ptr qb0 qo1), (.agg [(.int .i64 e2), (.int .i64 e3), (.int .i64 e4)]), (.int .i64 11), (.agg [(.int .i64 e2), (.int .i64 e3), (.int .i64 e4)]), (.bool ((decide (e2 < 1)) || (decide (e2 > 4)))), (.bool ((((decide (e3 < 1)) || (decide (e3 > 1000000000))) || (decide (e4 < 0))) || (decide (e4 > 3)))), (.bool (((e2) != 1) && ((e4) != 0))), (.bool ((e2) == 1)), (.int .i64 r9), (.bool (decide (r9 < 0))), (.bool ((e2) == 2)), (.bool (!e15)), .undef] H10 (by kernel_rfl) ?_
                refine then_norm ?_
                refine w_ret ?_
                refine block_ret ?_
                refine then_ret ?_
                exact body_ret (vs := [(.int .i64 11)]) _ (by kernel_rfl) rfl h
              · replace h := h.2 ((is_not is_raw).f hc)
                refine w_seq ?_
                refine w_run [0, 1, 1, 1, 1, 0, 1, 0] ?_
                refine t_ptr true qb0 qo1 H10 (by kernel_rfl) ?_
                refine t_op true (.fieldAddr 0 (.loc 0)) [.ptr qb0 qo1] H10 (.ptr qb0 qo1) H10 (by kernel_rfl) rfl ?_
                refine t_op true (.fieldAddr 0 (.loc 0)) [.ptr qb0 qo1] H10 (.ptr qb0 qo1) H10 (by kernel_rfl) rfl ?_
                obtain ⟨e17, hl, h⟩ := h
                refine t_load true none qb0 qo1 e17 H10 (by kernel_rfl) hl ?_
                obtain ⟨b18, o19, hp, h⟩ := h
                refine t_idx true 6 e17 .i64 r9 b18 o19 H10 (by kernel_rfl) hp ?_
                refine t_done [(.ptr qb0 qo1), (.agg [(.int .i64 e2), (.int .i64 e3), (.int .i64 e4)]), (.int .i64 0), (.agg [(.int .i64 e2), (.int .i64 e3), (.int .i64 e4)]), (.bool ((decide (e2 < 1)) || (decide (e2 > 4)))), (.bool ((((decide (e3 < 1)) || (decide (e3 > 1000000000))) || (decide (e4 < 0))) || (decide (e4 > 3)))), (.bool (((e2) != 1) && ((e4) != 0))), (.bool ((e2) == 1)), (.int .i64 r9), (.bool (decide (r9 < 0))), (.bool ((e2) == 2)), (.bool (!e15)), (.ptr b18 o19)] H10 (by kernel_rfl) ?_
                refine then_norm ?_
                refine w_run [0, 0, 0, 0, 0, 0, 0, 0, 0, 1, 1, 1, 1, 1, 1, 1, 1, 1] ?_
                refine t_ptr false b18 o19 H10 (by kernel_rfl) ?_
                refine t_op false (.fieldAddr 2 (.loc 0)) [.ptr b18 o19] H10 (.ptr b18 (o19 + 2)) H10 (by kernel_rfl) rfl ?_
                obtain ⟨H20, hp, h⟩ := h
                refine t_store1 false 1 b18 (o19 + 2) (.bool false) (.agg [(.int .i64 e2), (.int .i64 e3), (.int .i64 e4)]) H20 H10 (by kernel_rfl) rfl hp ?_
                refine t_ptr false b18 o19 H20 (by kernel_rfl) ?_
                refine t_op false (.fieldAddr 3 (.loc 0)) [.ptr b18 o19] H20 (.ptr b18 (o19 + 3)) H20 (by kernel_rfl) rfl ?_
                obtain ⟨H21, hp, h⟩ := h
                refine t_store1 false 1 b18 (o19 + 3) (.bool ((e2) == 3)) (.agg [(.int .i64 e2), (.int .i64 e3), (.int .i64 e4)]) H21 H20 (by kernel_rfl) rfl hp ?_
                refine t_ptr true b18 o19 H21 (by kernel_rfl) ?_
                refine t_op true (.fieldAddr 4 (.loc 0)) [.ptr b18 o19] H21 (.ptr b18 (o19 + 4)) H21 (by kernel_rfl) rfl ?_
                obtain ⟨H22, hp, h⟩ := h
                refine t_store true 1 b18 (o19 + 4) (.bool ((e2) == 4)) H22 H21 (by kernel_rfl) hp ?_
                refine t_done [(.ptr qb0 qo1), (.agg [(.int .i64 e2), (.int .i64 e3), (.int .i64 e4)]), (.int .i64 0), (.agg [(.int .i64 e2), (.int .i64 e3), (.int .i64 e4)]), (.bool ((decide (e2 < 1)) || (decide (e2 > 4)))), (.bool ((((decide (e3 < 1)) || (decide (e3 > 1000000000))) || (decide (e4 < 0))) || (decide (e4 > 3)))), (.bool (((e2) != 1) && ((e4) != 0))), (.bool ((e2) == 1)), (.int .i64 r9), (.bool (decide (r9 < 0))), (.bool ((e2) == 2)), (.bool (!e15)), (.ptr b18 o19)] H22 (by kernel_rfl) ?_
                refine block_norm ?_
                refine then_norm ?_
                refine w_seq ?_
                refine w_run [0] ?_
                refine t_done [(.ptr qb0 qo1), (.agg [(.int .i64 e2), (.int .i64 e3), (.int .i64 e4)]), (.int .i64 0), (.agg [(.int .i64 e2), (.int .i64 e3), (.int .i64 e4)]), (.bool ((decide (e2 < 1)) || (decide (e2 > 4)))), (.bool ((((decide (e3 < 1)) || (decide (e3 > 1000000000))) || (decide (e4 < 0))) || (decide (e4 > 3)))), (.bool (((e2) != 1) && ((e4) != 0))), (.bool ((e2) == 1)), (.int .i64 r9), (.bool (decide (r9 < 0))), (.bool ((e2) == 2)), (.bool (!e15)), (.ptr b18 o19)] H22 (by kernel_rfl) ?_
                refine then_norm ?_
                refine w_ret ?_
                exact body_ret (vs := [(.int .i64 0)]) _ (by kernel_rfl) rfl h

def rf_mergequeue_queue_settle (nmergequeue_queue_remove nslices_Clone__int_int nmergequeue_queue_settlex1 nslices_DeleteFunc__int_int : Nat) : RFunc := ⟨1, 16, [],
 ((.seq (.block 0 (.loop ((.seq ((.seq (.ops [o1 (.move (.var 0)), o1 (.nilCheck (.loc 0)), o1 (.fieldAddr 0 (.loc 1)), o1 (.fieldAddr 0 (.loc 2)), o1 (.load none (.loc 3)), o1 (.len (.loc 4)), o1 (.bin .gtr .no (.loc 5) (.k (.int .i64 0))), o1 (.move (.loc 6)), o1 (.move (.var 0)), ⟨.nilCheck (.loc 8), (some (7, true)), none, true⟩, ⟨.fieldAddr 0 (.loc 9), (some (7, true)), none, true⟩, ⟨.fieldAddr 0 (.loc 10), (some (7, true)), none, true⟩, ⟨.load none (.loc 11), (some (7, true)), none, true⟩, ⟨.indexAddr 6 (.loc 12) (.k (.int .i64 0)), (some (7, true)), none, true⟩, ⟨.fieldAddr 3 (.loc 13), (some (7, true)), none, true⟩, ⟨.load none (.loc 14), (some (7, true)), none, true⟩, ⟨.move (.loc 15), (some (7, true)), none, true⟩, o1 (.move (.var 0)), ⟨.nilCheck (.loc 17), (some (16, false)), none, true⟩, ⟨.fieldAddr 0 (.loc 18), (some (16, false)), none, true⟩, ⟨.fieldAddr 0 (.loc 19), (some (16, false)), none, true⟩, ⟨.load none (.loc 20), (some (16, false)), none, true⟩, ⟨.indexAddr 6 (.loc 21) (.k (.int .i64 0)), (some (16, false)), none, true⟩, ⟨.fieldAddr 4 (.loc 22), (some (16, false)), none, true⟩, ⟨.load none (.loc 23), (some (16, false)), none, true⟩, ⟨.pick (.loc 16) (.k (.bool true)) (.loc 24), (some (7, true)), none, true⟩, ⟨.pick (.loc 7) (.loc 25) (.k (.bool false)), none, (some 1), true⟩])
 (.cond (.var 1) (.skip) (.exit 0))))
 (.block 1 ((.seq (.ops [o1 (.move (.var 0)), o1 (.nilCheck (.loc 0)), o1 (.fieldAddr 0 (.loc 1)), o1 (.fieldAddr 0 (.loc 2)), o1 (.load none (.loc 3)), o1 (.indexAddr 6 (.loc 4) (.k (.int .i64 0))), o1 (.load (some 6) (.loc 5)), ⟨.alloc 1 [.int .i64 0, .int .i64 0, .bool false, .bool false, .bool false, .empty], none, (some 2), true⟩, o1 (.store 6 (.loc 7) (.loc 6) [])])
 ((.seq ((.seq (.ops [o1 (.fieldAddr 4 (.var 2)), ⟨.load none (.loc 0), none, (some 3), true⟩])
 (.cond (.var 3) ((.seq (.ops [o1 (.move (.var 0)), o1 (.callS nmergequeue_queue_remove [(.loc 0), (.k (.int .i64 0))])])
 ((.seq (.ops [⟨.move (.var 0), none, none, false⟩, ⟨.move (.var 0), none, none, false⟩, ⟨.nilCheck (.loc 1), none, none, false⟩, ⟨.fieldAddr 0 (.loc 2), none, none, false⟩, ⟨.fieldAddr 2 (.loc 3), none, none, false⟩, ⟨.load none (.loc 4), none, none, false⟩, ⟨.fieldAddr 0 (.var 2), none, none, false⟩, ⟨.load none (.loc 6), none, none, false⟩, ⟨.buildSlice 1 [.int .i64 0] [(0, 1, (.loc 7))] 1, none, none, false⟩, o1 (.append 1 8 (.loc 5) (.loc 8)), o1 (.nilCheck (.loc 0)), o1 (.fieldAddr 0 (.loc 10)), o1 (.fieldAddr 2 (.loc 11)), o1 (.store 1 (.loc 12) (.loc 9) [])])
 (.exit 1))))) (.skip))))
 ((.seq (.ops [o1 (.move (.var 0)), o1 (.move (.var 0)), o1 (.nilCheck (.loc 1)), o1 (.fieldAddr 0 (.loc 2)), o1 (.fieldAddr 0 (.loc 3)), o1 (.load none (.loc 4)), o1 (.slice 6 (.loc 5) (some (.k (.int .i64 1))) none none), o1 (.nilCheck (.loc 0)), o1 (.fieldAddr 0 (.loc 7)), o1 (.fieldAddr 0 (.loc 8)), o1 (.store 1 (.loc 9) (.loc 6) [])])
 ((.seq (.ops [⟨.move (.var 0), none, none, false⟩, ⟨.move (.var 0), none, none, false⟩, ⟨.nilCheck (.loc 1), none, none, false⟩, ⟨.fieldAddr 0 (.loc 2), none, none, false⟩, ⟨.fieldAddr 1 (.loc 3), none, none, false⟩, ⟨.load none (.loc 4), none, none, false⟩, ⟨.fieldAddr 0 (.var 2), none, none, false⟩, ⟨.load none (.loc 6), none, none, false⟩, ⟨.buildSlice 1 [.int .i64 0] [(0, 1, (.loc 7))] 1, none, none, false⟩, o1 (.append 1 8 (.loc 5) (.loc 8)), o1 (.nilCheck (.loc 0)), o1 (.fieldAddr 0 (.loc 10)), o1 (.fieldAddr 1 (.loc 11)), o1 (.store 1 (.loc 12) (.loc 9) [])])
 ((.seq (.ops [o1 (.move (.var 0)), o1 (.nilCheck (.loc 0)), o1 (.fieldAddr 0 (.loc 1)), o1 (.fieldAddr 0 (.loc 2)), o1 (.load none (.loc 3)), ⟨.len (.loc 4), none, (some 5), true⟩, ⟨.move (.k (.int .i64 0)), none, (some 4), true⟩])
 (.block 2 (.loop ((.seq (.ops [⟨.bin .lss .no (.var 4) (.var 5), none, (some 6), true⟩])
 ((.seq (.cond (.var 6) (.skip) (.exit 2))
 ((.seq (.block 3 ((.seq (.ops [o1 (.move (.var 4)), ⟨.move (.loc 0), none, (some 7), true⟩])
 ((.seq (.ops [o1 (.move (.var 0)), o1 (.nilCheck (.loc 0)), o1 (.fieldAddr 0 (.loc 1)), o1 (.fieldAddr 0 (.loc 2)), o1 (.load none (.loc 3)), o1 (.move (.var 7)), o1 (.indexAddr 6 (.loc 4) (.loc 5)), ⟨.move (.loc 6), none, (some 8), true⟩])
 (.ops [o1 (.move (.var 8)), o1 (.move (.var 8)), o1 (.nilCheck (.loc 1)), o1 (.fieldAddr 5 (.loc 2)), o1 (.load none (.loc 3)), o1 (.callS nslices_Clone__int_int [(.loc 4)]), o1 (.makeFunc nmergequeue_queue_settlex1 [(.var 2)]), o1 (.callS nslices_DeleteFunc__int_int [(.loc 5), (.loc 6)]), o1 (.nilCheck (.loc 0)), o1 (.fieldAddr 5 (.loc 8)), o1 (.store 1 (.loc 9) (.loc 7) [])]))))))
 (.ops [o1 (.bin .add .no (.var 4) (.k (.int .i64 1))), ⟨.move (.loc 0), none, (some 4), true⟩]))))))))))))))))))))))))
 ((.seq (.ops [⟨.move (.k (.empty)), none, (some 15), true⟩])
 ((.seq (.ops [⟨.move (.var 0), none, none, false⟩, ⟨.nilCheck (.loc 0), none, none, false⟩, ⟨.fieldAddr 0 (.loc 1), none, none, false⟩, ⟨.fieldAddr 0 (.loc 2), none, none, false⟩, ⟨.load none (.loc 3), none, none, false⟩, ⟨.move (.var 0), none, none, false⟩, ⟨.nilCheck (.loc 5), none, none, false⟩, ⟨.fieldAddr 3 (.loc 6), none, none, false⟩, ⟨.load none (.loc 7), none, none, false⟩, ⟨.move (.var 0), none, none, false⟩, ⟨.nilCheck (.loc 9), none, none, false⟩, ⟨.fieldAddr 0 (.loc 10), none, none, false⟩, ⟨.fieldAddr 0 (.loc 11), none, none, false⟩, ⟨.load none (.loc 12), none, none, false⟩, ⟨.len (.loc 13), none, none, false⟩, ⟨.min (.loc 8) [(.loc 14)], none, none, false⟩, o1 (.slice 6 (.loc 4) none (some (.loc 15)) none), ⟨.len (.loc 16), none, (some 10), true⟩, ⟨.move (.k (.int .i64 0)), none, (some 9), false⟩])
 (.block 4 (.loop ((.seq (.ops [⟨.bin .lss .no (.var 9) (.var 10), none, (some 11), true⟩])
 ((.seq (.cond (.var 11) (.skip) (.exit 4))
 ((.seq (.block 5 ((.seq (.ops [o1 (.move (.var 9)), ⟨.move (.loc 0), none, (some 12), true⟩])
 ((.seq (.ops [o1 (.move (.var 0)), o1 (.nilCheck (.loc 0)), o1 (.fieldAddr 0 (.loc 1)), o1 (.fieldAddr 0 (.loc 2)), o1 (.load none (.loc 3)), o1 (.move (.var 12)), o1 (.indexAddr 6 (.loc 4) (.loc 5)), ⟨.move (.loc 6), none, (some 13), true⟩])
 ((.seq ((.seq (.ops [o1 (.move (.var 13)), o1 (.nilCheck (.loc 0)), o1 (.fieldAddr 2 (.loc 1)), o1 (.load none (.loc 2)), o1 (.un .not (.loc 3)), o1 (.move (.loc 4)), o1 (.move (.var 13)), ⟨.nilCheck (.loc 6), (some (5, true)), none, true⟩, ⟨.fieldAddr 3 (.loc 7), (some (5, true)), none, true⟩, ⟨.load none (.loc 8), (some (5, true)), none, true⟩, ⟨.un .not (.loc 9), (some (5, true)), none, true⟩, o1 (.pick (.loc 5) (.loc 10) (.k (.bool false))), o1 (.move (.loc 11)), o1 (.move (.var 13)), ⟨.nilCheck (.loc 13), (some (12, true)), none, true⟩, ⟨.fieldAddr 4 (.loc 14), (some (12, true)), none, true⟩, ⟨.load none (.loc 15), (some (12, true)), none, true⟩, ⟨.un .not (.loc 16), (some (12, true)), none, true⟩, ⟨.pick (.loc 12) (.loc 17) (.k (.bool false)), none, (some 14), true⟩])
 (.cond (.var 14) (.ops [o1 (.move (.var 13)), o1 (.move (.var 13)), o1 (.move (.var 15)), o1 (.callS nslices_Clone__int_int [(.loc 2)]), o1 (.nilCheck (.loc 0)), o1 (.fieldAddr 2 (.loc 4)), o1 (.store 1 (.loc 5) (.k (.bool true)) []), o1 (.nilCheck (.loc 1)), o1 (.fieldAddr 5 (.loc 7)), o1 (.store 1 (.loc 8) (.loc 3) [])]) (.skip))))
 (.ops [o1 (.move (.var 15)), o1 (.move (.var 13)), o1 (.nilCheck (.loc 1)), o1 (.fieldAddr 0 (.loc 2)), o1 (.load none (.loc 3)), o1 (.buildSlice 1 [.int .i64 0] [(0, 1, (.loc 4))] 1), o1 (.append 1 8 (.loc 0) (.loc 5)), ⟨.move (.loc 6), none, (some 15), true⟩]))))))))
 (.ops [o1 (.bin .add .no (.var 9) (.k (.int .i64 1))), ⟨.move (.loc 0), none, (some 9), true⟩]))))))))))))))), none⟩
theorem v_mergequeue_queue_settle {F : Nat → Option RFunc} {me nmergequeue_queue_remove nslices_Clone__int_int nmergequeue_queue_settlex1 nslices_DeleteFunc__int_int : Nat} (hF : F me = some (rf_mergequeue_queue_settle nmergequeue_queue_remove nslices_Clone__int_int nmergequeue_queue_settlex1 nslices_DeleteFunc__int_int)) {fl : Nat} {H : Heap} {Q : AV → Heap → Prop} (qb0 : Nat) (qo1 : Nat)
  (h : ∃ (J2 : Nat → Heap → Prop) (k3 : Nat), J2 k3 H ∧ (∀ (m4 : Nat) (H13 : Heap), J2 m4 H13 → ∃ (R14 : Prop), (∃ (e16 : AV), rload H13 none qb0 qo1 = some e16 ∧ ∃ len17 : Nat, lenA e16 = some len17 ∧ (((len17 : Int) > 0) → ∃ (e18 : AV), rload H13 none qb0 qo1 = some e18 ∧ ∃ (e19 : Bool), getA H13 6 none e18 0 3 = some (.bool e19) ∧ ((e19 = true) → R14 ) ∧ (¬(e19 = true) → ∃ (e21 : AV), rload H13 none qb0 qo1 = some e21 ∧ ∃ (e22 : Bool), getA H13 6 none e21 0 4 = some (.bool e22) ∧ ((e22 = true) → R14 ) ∧ (¬(e22 = true) → ∃ (e24 : AV), rload H13 none qb0 qo1 = some e24 ∧ ∃ (e25 : Int), rload H13 none qb0 (qo1 + 3) = some (.int .i64 e25) ∧ ∃ (e26 : AV), rload H13 none qb0 qo1 = some e26 ∧ ∃ len27 : Nat, lenA e26 = some len27 ∧ ∃ s28 : AV, rslice H13 6 e24 none (some (.int .i64 (imin e25 (len27 : Int)))) none = some s28 ∧ ∃ len29 : Nat, lenA s28 = some len29 ∧ ∃ (J30 : Nat → Int → AV → Heap → Prop) (k31 : Nat), J30 k31 0 .empty H13 ∧ (∀ (m32 : Nat) (v33 : Int) (ahead38 : AV) (H39 : Heap), J30 m32 v33 ahead38 H39 → ((v33 < (len29 : Int)) → ∃ (e40 : AV), rload H39 none qb0 qo1 = some e40 ∧ ∃ b41 o42 : Nat, ptrA 6 e40 v33 = some (b41, o42) ∧ ∃ (e43 : Bool), rload H39 none b41 (o42 + 2) = some (.bool e43) ∧ ((¬(e43 = true)) → ∃ (e44 : Bool), rload H39 none b41 (o42 + 3) = some (.bool e44) ∧ ((¬(e44 = true)) → ∃ (e45 : Bool), rload H39 none b41 (o42 + 4) = some (.bool e45) ∧ ((¬(e45 = true)) → Ret F fl nslices_Clone__int_int [ahead38] H39 (fun r46 H47 => ∃ H49 : Heap, putA fl H47 b41 (o42 + 2) 1 (.bool true) = some H49 ∧ ∃ H50 : Heap, putA fl H49 b41 (o42 + 5) 1 r46 = some H50 ∧ ∃ (e51 : Int), rload H50 none b41 o42 = some (.int .i64 e51) ∧ ∀ (b52 : Nat) (H53 : Heap), NewB H50 1 [(.int .i64 e51)] b52 H53 → ∃ (a54 : AV) (H55 : Heap), appA fl true 1 8 H53 ahead38 (.slice b52 0 1 (some 1)) = some (a54, H55) ∧ ∃ m56 : Nat, m56 < m32 ∧ J30 m56 (IntKind.wrap .i64 (v33 + 1)) a54 H55)) ∧ (¬(¬(e45 = true)) → ∃ (e57 : Int), rload H39 none b41 o42 = some (.int .i64 e57) ∧ ∀ (b58 : Nat) (H59 : Heap), NewB H39 1 [(.int .i64 e57)] b58 H59 → ∃ (a60 : AV) (H61 : Heap), appA fl true 1 8 H59 ahead38 (.slice b58 0 1 (some 1)) = some (a60, H61) ∧ ∃ m62 : Nat, m62 < m32 ∧ J30 m62 (IntKind.wrap .i64 (v33 + 1)) a60 H61)) ∧ (¬(¬(e44 = true)) → ∃ (e63 : Int), rload H39 none b41 o42 = some (.int .i64 e63) ∧ ∀ (b64 : Nat) (H65 : Heap), NewB H39 1 [(.int .i64 e63)] b64 H65 → ∃ (a66 : AV) (H67 : Heap), appA fl true 1 8 H65 ahead38 (.slice b64 0 1 (some 1)) = some (a66, H67) ∧ ∃ m68 : Nat, m68 < m32 ∧ J30 m68 (IntKind.wrap .i64 (v33 + 1)) a66 H67)) ∧ (¬(¬(e43 = true)) → ∃ (e69 : Int), rload H39 none b41 o42 = some (.int .i64 e69) ∧ ∀ (b70 : Nat) (H71 : Heap), NewB H39 1 [(.int .i64 e69)] b70 H71 → ∃ (a72 : AV) (H73 : Heap), appA fl true 1 8 H71 ahead38 (.slice b70 0 1 (some 1)) = some (a72, H73) ∧ ∃ m74 : Nat, m74 < m32 ∧ J30 m74 (IntKind.wrap .i64 (v33 + 1)) a72 H73)) ∧ (¬(v33 < (len29 : Int)) → Q .undef H39))))) ∧ (¬((len17 : Int) > 0) → ∃ (e75 : AV), rload H13 none qb0 qo1 = some e75 ∧ ∃ (e76 : Int), rload H13 none qb0 (qo1 + 3) = some (.int .i64 e76) ∧ ∃ (e77 : AV), rload H13 none qb0 qo1 = some e77 ∧ ∃ len78 : Nat, lenA e77 = some len78 ∧ ∃ s79 : AV, rslice H13 6 e75 none (some (.int .i64 (imin e76 (len78 : Int)))) none = some s79 ∧ ∃ len80 : Nat, lenA s79 = some len80 ∧ ∃ (J81 : Nat → Int → AV → Heap → Prop) (k82 : Nat), J81 k82 0 .empty H13 ∧ (∀ (m83 : Nat) (v84 : Int) (ahead89 : AV) (H90 : Heap), J81 m83 v84 ahead89 H90 → ((v84 < (len80 : Int)) → ∃ (e91 : AV), rload H90 none qb0 qo1 = some e91 ∧ ∃ b92 o93 : Nat, ptrA 6 e91 v84 = some (b92, o93) ∧ ∃ (e94 : Bool), rload H90 none b92 (o93 + 2) = some (.bool e94) ∧ ((¬(e94 = true)) → ∃ (e95 : Bool), rload H90 none b92 (o93 + 3) = some (.bool e95) ∧ ((¬(e95 = true)) → ∃ (e96 : Bool), rload H90 none b92 (o93 + 4) = some (.bool e96) ∧ ((¬(e96 = true)) → Ret F fl nslices_Clone__int_int [ahead89] H90 (fun r97 H98 => ∃ H100 : Heap, putA fl H98 b92 (o93 + 2) 1 (.bool true) = some H100 ∧ ∃ H101 : Heap, putA fl H100 b92 (o93 + 5) 1 r97 = some H101 ∧ ∃ (e102 : Int), rload H101 none b92 o93 = some (.int .i64 e102) ∧ ∀ (b103 : Nat) (H104 : Heap), NewB H101 1 [(.int .i64 e102)] b103 H104 → ∃ (a105 : AV) (H106 : Heap), appA fl true 1 8 H104 ahead89 (.slice b103 0 1 (some 1)) = some (a105, H106) ∧ ∃ m107 : Nat, m107 < m83 ∧ J81 m107 (IntKind.wrap .i64 (v84 + 1)) a105 H106)) ∧ (¬(¬(e96 = true)) → ∃ (e108 : Int), rload H90 none b92 o93 = some (.int .i64 e108) ∧ ∀ (b109 : Nat) (H110 : Heap), NewB H90 1 [(.int .i64 e108)] b109 H110 → ∃ (a111 : AV) (H112 : Heap), appA fl true 1 8 H110 ahead89 (.slice b109 0 1 (some 1)) = some (a111, H112) ∧ ∃ m113 : Nat, m113 < m83 ∧ J81 m113 (IntKind.wrap .i64 (v84 + 1)) a111 H112)) ∧ (¬(¬(e95 = true)) → ∃ (e114 : Int), rload H90 none b92 o93 = some (.int .i64 e114) ∧ ∀ (b115 : Nat) (H116 : Heap), NewB H90 1 [(.int .i64 e114)] b115 H116 → ∃ (a117 : AV) (H118 : Heap), appA fl true 1 8 H116 ahead89 (.slice b115 0 1 (some 1)) = some (a117, H118) ∧ ∃ m119 : Nat, m119 < m83 ∧ J81 m119 (IntKind.wrap .i64 (v84 + 1)) a117 H118)) ∧ (¬(¬(e94 = true)) → ∃ (e120 : Int), rload H90 none b92 o93 = some (.int .i64 e120) ∧ ∀ (b121 : Nat) (H122 : Heap), NewB H90 1 [(.int .i64 e120)] b121 H122 → ∃ (a123 : AV) (H124 : Heap), appA fl true 1 8 H122 ahead89 (.slice b121 0 1 (some 1)) = some (a123, H124) ∧ ∃ m125 : Nat, m125 < m83 ∧ J81 m125 (IntKind.wrap .i64 (v84 + 1)) a123 H124)) ∧ (¬(v84 < (len80 : Int)) → Q .undef H90)))) ∧ (R14  → ∃ (e126 : AV), rload H13 none qb0 qo1 = some e126 ∧ ∃ (e127 : Int) (e128 : Int) (e129 : Bool) (e130 : Bool) (e131 : Bool) (e132 : AV), getA H13 6 (some 6) e126 0 0 = some (.agg [(.int .i64 e127), (.int .i64 e128), (.bool e129), (.bool e130), (.bool e131), e132]) ∧ ∀ (b134 : Nat) (H135 : Heap), NewB H13 1 [(.int .i64 0), (.int .i64 0), (.bool false), (.bool false), (.bool false), .empty] b134 H135 → ∃ H136 : Heap, putA fl H135 b134 0 6 (.agg [(.int .i64 e127), (.int .i64 e128), (.bool e129), (.bool e130), (.bool e131), e132]) = some H136 ∧ ∃ (e137 : Bool), rload H136 none b134 (0 + 4) = some (.bool e137) ∧ ((e137 = true) → Ret F fl nmergequeue_queue_remove [(.ptr qb0 qo1), (.int .i64 0)] H136 (fun v139 H138 => v139 = .undef ∧ ∃ (e140 : AV), rload H138 none qb0 (qo1 + 2) = some e140 ∧ ∃ (e141 : Int), rload H138 none b134 0 = some (.int .i64 e141) ∧ ∀ (b142 : Nat) (H143 : Heap), NewB H138 1 [(.int .i64 e141)] b142 H143 → ∃ (a144 : AV) (H145 : Heap), appA fl true 1 8 H143 e140 (.slice b142 0 1 (some 1)) = some (a144, H145) ∧ ∃ H146 : Heap, putA fl H145 qb0 (qo1 + 2) 1 a144 = some H146 ∧ ∃ m147 : Nat, m147 < m4 ∧ J2 m147 H146)) ∧ (¬(e137 = true) → ∃ (e148 : AV), rload H136 none qb0 qo1 = some e148 ∧ ∃ s149 : AV, rslice H136 6 e148 (some (.int .i64 1)) none none = some s149 ∧ ∃ H150 : Heap, putA fl H136 qb0 qo1 1 s149 = some H150 ∧ ∃ (e151 : AV), rload H150 none qb0 (qo1 + 1) = some e151 ∧ ∃ (e152 : Int), rload H150 none b134 0 = some (.int .i64 e152) ∧ ∀ (b153 : Nat) (H154 : Heap), NewB H150 1 [(.int .i64 e152)] b153 H154 → ∃ (a155 : AV) (H156 : Heap), appA fl true 1 8 H154 e151 (.slice b153 0 1 (some 1)) = some (a155, H156) ∧ ∃ H157 : Heap, putA fl H156 qb0 (qo1 + 1) 1 a155 = some H157 ∧ ∃ (e158 : AV), rload H157 none qb0 qo1 = some e158 ∧ ∃ len159 : Nat, lenA e158 = some len159 ∧ ∃ (J160 : Nat → Int → Heap → Prop) (k161 : Nat), J160 k161 0 H157 ∧ (∀ (m162 : Nat) (v163 : Int) (H167 : Heap), J160 m162 v163 H167 → ((v163 < (len159 : Int)) → ∃ (e168 : AV), rload H167 none qb0 qo1 = some e168 ∧ ∃ b169 o170 : Nat, ptrA 6 e168 v163 = some (b169, o170) ∧ ∃ (e171 : AV), rload H167 none b169 (o170 + 5) = some e171 ∧ Ret F fl nslices_Clone__int_int [e171] H167 (fun r172 H173 => Ret F fl nslices_DeleteFunc__int_int [r172, (.func nmergequeue_queue_settlex1 [(.ptr b134 0)])] H173 (fun r175 H176 => ∃ H178 : Heap, putA fl H176 b169 (o170 + 5) 1 r175 = some H178 ∧ ∃ m179 : Nat, m179 < m162 ∧ J160 m179 (IntKind.wrap .i64 (v163 + 1)) H178))) ∧ (¬(v163 < (len159 : Int)) → ∃ m180 : Nat, m180 < m4 ∧ J2 m180 H167)))))) : Ret F fl me [(.ptr qb0 qo1)] H Q := by
  refine ret_intro hF rfl ?_
  refine w_seq ?_
  refine w_block ?_
  obtain ⟨J2, k3, h0, h⟩ := h
  refine w_loop (I := fun mI EI HI => ∃ (d5 : AV) (d6 : AV) (d7 : AV) (d8 : AV) (d9 : AV) (d10 : AV) (d11 : AV) (d12 : AV), EI = [(.ptr qb0 qo1), d5, d6, d7, d8, d9, d10, d11, d12, .undef, .undef, .undef, .undef, .undef, .undef, .undef] ∧ J2 mI  HI) ?_ k3 ⟨_, _, _, _, _, _, _, _, rfl, h0⟩
  clear h0
  rintro m4 EI H13 ⟨d5, d6, d7, d8, d9, d10, d11, d12, rfl, hJ⟩
  replace h := h m4  H13 hJ
  clear hJ
  refine w_seq ?_
  obtain ⟨R14, h, hK⟩ := h
  refine w_join (fun EI HI => ∃ (d15 : AV), EI = [(.ptr qb0 qo1), d15, d6, d7, d8, d9, d10, d11, d12, .undef, .undef, .undef, .undef, .undef, .undef, .undef] ∧ H13 = HI ∧ R14 ) ?_ ?_
  · clear hK
    refine w_seq ?_
    refine w_run [0, 1, 1, 1, 1, 1, 0, 0, 0, 3, 3, 3, 3, 3, 3, 3, 2, 0, 3, 3, 3, 3, 3, 3, 3, 2, 0] ?_
    refine t_ptr true qb0 qo1 H13 (by kernel_rfl) ?_
    refine t_op true (.fieldAddr 0 (.loc 0)) [.ptr qb0 qo1] H13 (.ptr qb0 qo1) H13 (by kernel_rfl) rfl ?_
    refine t_op true (.fieldAddr 0 (.loc 0)) [.ptr qb0 qo1] H13 (.ptr qb0 qo1) H13 (by kernel_rfl) rfl ?_
    obtain ⟨e16, hl, h⟩ := h
    refine t_load true none qb0 qo1 e16 H13 (by kernel_rfl) hl ?_
    obtain ⟨len17, hl, h⟩ := h
    refine t_len true e16 len17 H13 (by kernel_rfl) hl ?_
    refine t_gd (decide ((len17 : Int) > 0)) true (by kernel_rfl) (fun hc => ?_) (fun hc => ?_)
    · replace h := h.1 (is_dec.t hc)
      refine t_ptr true qb0 qo1 H13 (by kernel_rfl) ?_
      refine t_gd true true (by kernel_rfl) (fun _ => ?_) (fun hn => by cases hn)
      refine t_op true (.fieldAddr 0 (.loc 0)) [.ptr qb0 qo1] H13 (.ptr qb0 qo1) H13 (by kernel_rfl) rfl ?_
      refine t_gd true true (by kernel_rfl) (fun _ => ?_) (fun hn => by cases hn)
      refine t_op true (.fieldAddr 0 (.loc 0)) [.ptr qb0 qo1] H13 (.ptr qb0 qo1) H13 (by kernel_rfl) rfl ?_
      refine t_gd true true (by kernel_rfl) (fun _ => ?_) (fun hn => by cases hn)
      obtain ⟨e18, hl, h⟩ := h
      refine t_load true none qb0 qo1 e18 H13 (by kernel_rfl) hl ?_
      refine t_gd true true (by kernel_rfl) (fun _ => ?_) (fun hn => by cases hn)
      obtain ⟨e19, hg20, h⟩ := h
      refine t_idxG true 6 e18 .i64 0 H13 (by kernel_rfl) hg20 ?_
      refine t_gd true true (by kernel_rfl) (fun _ => ?_) (fun hn => by cases hn)
      refine t_fldG true 3 6 e18 0 0 H13 (by kernel_rfl) hg20 ?_
      refine t_gd true true (by kernel_rfl) (fun _ => ?_) (fun hn => by cases hn)
      refine t_loadG true none 6 e18 0 3 (.bool e19) H13 (by kernel_rfl) hg20 ?_
      refine t_gd true true (by kernel_rfl) (fun _ => ?_) (fun hn => by cases hn)
      refine t_gd e19 false (by kernel_rfl) (fun hc => ?_) (fun hc => ?_)
      · replace h := h.2 (is_raw.f hc)
        refine t_ptr true qb0 qo1 H13 (by kernel_rfl) ?_
        refine t_gd false false (by kernel_rfl) (fun _ => ?_) (fun hn => by cases hn)
        refine t_op true (.fieldAddr 0 (.loc 0)) [.ptr qb0 qo1] H13 (.ptr qb0 qo1) H13 (by kernel_rfl) rfl ?_
        refine t_gd false false (by kernel_rfl) (fun _ => ?_) (fun hn => by cases hn)
        refine t_op true (.fieldAddr 0 (.loc 0)) [.ptr qb0 qo1] H13 (.ptr qb0 qo1) H13 (by kernel_rfl) rfl ?_
        refine t_gd false false (by kernel_rfl) (fun _ => ?_) (fun hn => by cases hn)
        obtain ⟨e21, hl, h⟩ := h
        refine t_load true none qb0 qo1 e21 H13 (by kernel_rfl) hl ?_
        refine t_gd false false (by kernel_rfl) (fun _ => ?_) (fun hn => by cases hn)
        obtain ⟨e22, hg23, h⟩ := h
        refine t_idxG true 6 e21 .i64 0 H13 (by kernel_rfl) hg23 ?_
        refine t_gd false false (by kernel_rfl) (fun _ => ?_) (fun hn => by cases hn)
        refine t_fldG true 4 6 e21 0 0 H13 (by kernel_rfl) hg23 ?_
        refine t_gd false false (by kernel_rfl) (fun _ => ?_) (fun hn => by cases hn)
        refine t_loadG true none 6 e21 0 4 (.bool e22) H13 (by kernel_rfl) hg23 ?_
        refine t_gd true true (by kernel_rfl) (fun _ => ?_) (fun hn => by cases hn)
        refine t_done [(.ptr qb0 qo1), (.bool e22), d6, d7, d8, d9, d10, d11, d12, .undef, .undef, .undef, .undef, .undef, .undef, .undef] H13 (by kernel_rfl) ?_
        refine then_norm ?_
        refine w_cond (t := e22) rfl (fun hc => ?_) (fun hc => ?_)
        · replace h := h.1 (is_raw.t hc)
          refine w_skip ?_
          refine join_norm ⟨_, rfl, rfl, h⟩
        · replace h := h.2 (is_raw.f hc)
          refine w_exit ?_
          refine join_exit ?_
          refine then_exit ?_
          refine loop_exit ?_
          refine block_exit ?_
          refine then_norm ?_
          refine w_seq ?_
          refine w_run [0] ?_
          refine t_done [(.ptr qb0 qo1), (.bool e22), d6, d7, d8, d9, d10, d11, d12, .undef, .undef, .undef, .undef, .undef, .undef, .empty] H13 (by kernel_rfl) ?_
          refine then_norm ?_
          refine w_seq ?_
          refine w_run [0, 1, 1, 1, 1, 0, 1, 1, 1, 0, 1, 1, 1, 1, 1, 0, 1, 1, 0] ?_
          refine t_ptr false qb0 qo1 H13 (by kernel_rfl) ?_
          refine t_op false (.fieldAddr 0 (.loc 0)) [.ptr qb0 qo1] H13 (.ptr qb0 qo1) H13 (by kernel_rfl) rfl ?_
          refine t_op false (.fieldAddr 0 (.loc 0)) [.ptr qb0 qo1] H13 (.ptr qb0 qo1) H13 (by kernel_rfl) rfl ?_
          obtain ⟨e24, hl, h⟩ := h
          refine t_load false none qb0 qo1 e24 H13 (by kernel_rfl) hl ?_
          refine t_ptr false qb0 qo1 H13 (by kernel_rfl) ?_
          refine t_op false (.fieldAddr 3 (.loc 0)) [.ptr qb0 qo1] H13 (.ptr qb0 (qo1 + 3)) H13 (by kernel_rfl) rfl ?_
          obtain ⟨e25, hl, h⟩ := h
          refine t_load false none qb0 (qo1 + 3) (.int .i64 e25) H13 (by kernel_rfl) hl ?_
          refine t_ptr false qb0 qo1 H13 (by kernel_rfl) ?_
          refine t_op false (.fieldAddr 0 (.loc 0)) [.ptr qb0 qo1] H13 (.ptr qb0 qo1) H13 (by kernel_rfl) rfl ?_
          refine t_op false (.fieldAddr 0 (.loc 0)) [.ptr qb0 qo1] H13 (.ptr qb0 qo1) H13 (by kernel_rfl) rfl ?_
          obtain ⟨e26, hl, h⟩ := h
          refine t_load false none qb0 qo1 e26 H13 (by kernel_rfl) hl ?_
          obtain ⟨len27, hl, h⟩ := h
          refine t_len false e26 len27 H13 (by kernel_rfl) hl ?_
          obtain ⟨s28, hs, h⟩ := h
          refine t_slcH true 6 e24 (.int .i64 (imin e25 (len27 : Int))) s28 H13 (by kernel_rfl) hs ?_
          obtain ⟨len29, hl, h⟩ := h
          refine t_len true s28 len29 H13 (by kernel_rfl) hl ?_
          refine t_done [(.ptr qb0 qo1), (.bool e22), d6, d7, d8, d9, d10, d11, d12, (.int .i64 0), (.int .i64 (len29 : Int)), .undef, .undef, .undef, .undef, .empty] H13 (by kernel_rfl) ?_
          refine then_norm ?_
          refine w_block ?_
          obtain ⟨J30, k31, h0, h⟩ := h
          refine w_loop (I := fun mI EI HI => ∃ (v33 : Int) (d34 : AV) (d35 : AV) (d36 : AV) (d37 : AV) (ahead38 : AV), EI = [(.ptr qb0 qo1), (.bool e22), d6, d7, d8, d9, d10, d11, d12, (.int .i64 v33), (.int .i64 (len29 : Int)), d34, d35, d36, d37, ahead38] ∧ J30 mI v33 ahead38 HI) ?_ k31 ⟨_, _, _, _, _, _, rfl, h0⟩
          clear h0
          rintro m32 EI H39 ⟨v33, d34, d35, d36, d37, ahead38, rfl, hJ⟩
          replace h := h m32 v33 ahead38 H39 hJ
          clear hJ
          refine w_seq ?_
          refine w_run [0] ?_
          refine t_done [(.ptr qb0 qo1), (.bool e22), d6, d7, d8, d9, d10, d11, d12, (.int .i64 v33), (.int .i64 (len29 : Int)), (.bool (decide (v33 < (len29 : Int)))), d35, d36, d37, ahead38] H39 (by kernel_rfl) ?_
          refine then_norm ?_
          refine w_seq ?_
          refine w_cond (t := (decide (v33 < (len29 : Int)))) rfl (fun hc => ?_) (fun hc => ?_)
          · replace h := h.1 (is_dec.t hc)
            refine w_skip ?_
            refine then_norm ?_
            refine w_seq ?_
            refine w_block ?_
            refine w_seq ?_
            refine w_run [0, 0] ?_
            refine t_done [(.ptr qb0 qo1), (.bool e22), d6, d7, d8, d9, d10, d11, d12, (.int .i64 v33), (.int .i64 (len29 : Int)), (.bool (decide (v33 < (len29 : Int)))), (.int .i64 v33), d36, d37, ahead38] H39 (by kernel_rfl) ?_
            refine then_norm ?_
            refine w_seq ?_
            refine w_run [0, 1, 1, 1, 1, 0, 1, 0] ?_
            refine t_ptr true qb0 qo1 H39 (by kernel_rfl) ?_
            refine t_op true (.fieldAddr 0 (.loc 0)) [.ptr qb0 qo1] H39 (.ptr qb0 qo1) H39 (by kernel_rfl) rfl ?_
            refine t_op true (.fieldAddr 0 (.loc 0)) [.ptr qb0 qo1] H39 (.ptr qb0 qo1) H39 (by kernel_rfl) rfl ?_
            obtain ⟨e40, hl, h⟩ := h
            refine t_load true none qb0 qo1 e40 H39 (by kernel_rfl) hl ?_
            obtain ⟨b41, o42, hp, h⟩ := h
            refine t_idx true 6 e40 .i64 v33 b41 o42 H39 (by kernel_rfl) hp ?_
            refine t_done [(.ptr qb0 qo1), (.bool e22), d6, d7, d8, d9, d10, d11, d12, (.int .i64 v33), (.int .i64 (len29 : Int)), (.bool (decide (v33 < (len29 : Int)))), (.int .i64 v33), (.ptr b41 o42), d37, ahead38] H39 (by kernel_rfl) ?_
            refine then_norm ?_
            refine w_seq ?_
            refine w_seq ?_
            refine w_run [0, 1, 1, 1, 0, 0, 0, 3, 3, 3, 2, 0, 0, 0, 3, 3, 3, 2, 0] ?_
            refine t_ptr true b41 o42 H39 (by kernel_rfl) ?_
            refine t_op true (.fieldAddr 2 (.loc 0)) [.ptr b41 o42] H39 (.ptr b41 (o42 + 2)) H39 (by kernel_rfl) rfl ?_
            obtain ⟨e43, hl, h⟩ := h
            refine t_load true none b41 (o42 + 2) (.bool e43) H39 (by kernel_rfl) hl ?_
            refine t_gd (!e43) true (by kernel_rfl) (fun hc => ?_) (fun hc => ?_)
            · replace h := h.1 ((is_not is_raw).t hc)
              refine t_ptr true b41 o42 H39 (by kernel_rfl) ?_
              refine t_gd true true (by kernel_rfl) (fun _ => ?_) (fun hn => by cases hn)
              refine t_op true (.fieldAddr 3 (.loc 0)) [.ptr b41 o42] H39 (.ptr b41 (o42 + 3)) H39 (by kernel_rfl) rfl ?_
              refine t_gd true true (by kernel_rfl) (fun _ => ?_) (fun hn => by cases hn)
              obtain ⟨e44, hl, h⟩ := h
              refine t_load true none b41 (o42 + 3) (.bool e44) H39 (by kernel_rfl) hl ?_
              refine t_gd true true (by kernel_rfl) (fun _ => ?_) (fun hn => by cases hn)
              refine t_gd (!e44) true (by kernel_rfl) (fun hc => ?_) (fun hc => ?_)
              · replace h := h.1 ((is_not is_raw).t hc)
                refine t_ptr true b41 o42 H39 (by kernel_rfl) ?_
                refine t_gd true true (by kernel_rfl) (fun _ => ?_) (fun hn => by cases hn)
                refine t_op true (.fieldAddr 4 (.loc 0)) [.ptr b41 o42] H39 (.ptr b41 (o42 + 4)) H39 (by kernel_rfl) rfl ?_
                refine t_gd true true (by kernel_rfl) (fun _ => ?_) (fun hn => by cases hn)
                obtain ⟨e45, hl, h⟩ := h
                refine t_load true none b41 (o42 + 4) (.bool e45) H39 (by kernel_rfl) hl ?_
                refine t_gd true true (by kernel_rfl) (fun _ => ?_) (fun hn => by cases hn)
                refine t_done [(.ptr qb0 qo1), (.bool e22), d6, d7, d8, d9, d10, d11, d12, (.int .i64 v33), (.int .i64 (len29 : Int)), (.bool (decide (v33 < (len29 : Int)))), (.int .i64 v33), (.ptr b41 o42), (.bool (!e45)), ahead38] H39 (by kernel_rfl) ?_
                refine then_norm ?_
                refine w_cond (t := (!e45)) rfl (fun hc => ?_) (fun hc => ?_)
                · replace h := h.1 ((is_not is_raw).t hc)
                  refine w_run [0, 0, 0, 1, 1, 1, 1, 1, 1, 1] ?_
                  refine t_call true nslices_Clone__int_int [ahead38] H39 (by kernel_rfl) h ?_
                  clear h
                  rintro r46 H47 h
                  refine t_ptr true b41 o42 H47 (by kernel_rfl) ?_
                  refine t_op true (.fieldAddr 2 (.loc 0)) [.ptr b41 o42] H47 (.ptr b41 (o42 + 2)) H47 (by kernel_rfl) rfl ?_
                  obtain ⟨H49, hp, h⟩ := h
                  refine t_store true 1 b41 (o42 + 2) (.bool true) H49 H47 (by kernel_rfl) hp ?_
                  refine t_ptr true b41 o42 H49 (by kernel_rfl) ?_
                  refine t_op true (.fieldAddr 5 (.loc 0)) [.ptr b41 o42] H49 (.ptr b41 (o42 + 5)) H49 (by kernel_rfl) rfl ?_
                  obtain ⟨H50, hp, h⟩ := h
                  refine t_store true 1 b41 (o42 + 5) r46 H50 H49 (by kernel_rfl) hp ?_
                  refine t_done [(.ptr qb0 qo1), (.bool e22), d6, d7, d8, d9, d10, d11, d12, (.int .i64 v33), (.int .i64 (len29 : Int)), (.bool (decide (v33 < (len29 : Int)))), (.int .i64 v33), (.ptr b41 o42), (.bool (!e45)), ahead38] H50 (by kernel_rfl) ?_
                  refine then_norm ?_
                  refine w_run [0, 0, 1, 1, 1, 1, 1, 0] ?_
                  refine t_ptr true b41 o42 H50 (by kernel_rfl) ?_
                  refine t_op true (.fieldAddr 0 (.loc 0)) [.ptr b41 o42] H50 (.ptr b41 o42) H50 (by kernel_rfl) rfl ?_
                  obtain ⟨e51, hl, h⟩ := h
                  refine t_load true none b41 o42 (.int .i64 e51) H50 (by kernel_rfl) hl ?_
                  obtain ⟨b52, H53, hb⟩ : ∃ b H', NewB H50 1 [(.int .i64 e51)] b H' := ⟨_, _, rfl, rfl⟩
                  replace h := h b52 H53 hb
                  refine t_bs true 1 [(.int .i64 0)] [(0, 1, .loc 0)] 1 [(.int .i64 e51)] [(.int .i64 e51)] b52 H53 H50 (by kernel_rfl) (fill_c (vs := [(.int .i64 e51)]) (size := 1) rfl (by kernel_rfl) (by kernel_rfl) (by kernel_rfl)) hb ?_
                  obtain ⟨a54, H55, ha, h⟩ := h
                  refine t_app true 1 8 ahead38 (.slice b52 0 1 (some 1)) a54 H55 H53 (by kernel_rfl) ha ?_
                  refine t_done [(.ptr qb0 qo1), (.bool e22), d6, d7, d8, d9, d10, d11, d12, (.int .i64 v33), (.int .i64 (len29 : Int)), (.bool (decide (v33 < (len29 : Int)))), (.int .i64 v33), (.ptr b41 o42), (.bool (!e45)), a54] H55 (by kernel_rfl) ?_
                  refine block_norm ?_
                  refine then_norm ?_
                  refine w_run [0, 0] ?_
                  refine t_done [(.ptr qb0 qo1), (.bool e22), d6, d7, d8, d9, d10, d11, d12, (.int .i64 (IntKind.wrap .i64 (v33 + 1))), (.int .i64 (len29 : Int)), (.bool (decide (v33 < (len29 : Int)))), (.int .i64 v33), (.ptr b41 o42), (.bool (!e45)), a54] H55 (by kernel_rfl) ?_
                  obtain ⟨m', hm, h⟩ := h
                  refine loop_norm ⟨m', hm, _, _, _, _, _, _, rfl, h⟩
                · replace h := h.2 ((is_not is_raw).f hc)
                  refine w_skip ?_
                  refine then_norm ?_
                  refine w_run [0, 0, 1, 1, 1, 1, 1, 0] ?_
                  refine t_ptr true b41 o42 H39 (by kernel_rfl) ?_
                  refine t_op true (.fieldAddr 0 (.loc 0)) [.ptr b41 o42] H39 (.ptr b41 o42) H39 (by kernel_rfl) rfl ?_
                  obtain ⟨e57, hl, h⟩ := h
                  refine t_load true none b41 o42 (.int .i64 e57) H39 (by kernel_rfl) hl ?_
                  obtain ⟨b58, H59, hb⟩ : ∃ b H', NewB H39 1 [(.int .i64 e57)] b H' := ⟨_, _, rfl, rfl⟩
                  replace h := h b58 H59 hb
                  refine t_bs true 1 [(.int .i64 0)] [(0, 1, .loc 0)] 1 [(.int .i64 e57)] [(.int .i64 e57)] b58 H59 H39 (by kernel_rfl) (fill_c (vs := [(.int .i64 e57)]) (size := 1) rfl (by kernel_rfl) (by kernel_rfl) (by kernel_rfl)) hb ?_
                  obtain ⟨a60, H61, ha, h⟩ := h
                  refine t_app true 1 8 ahead38 (.slice b58 0 1 (some 1)) a60 H61 H59 (by kernel_rfl) ha ?_
                  refine t_done [(.ptr qb0 qo1), (.bool e22), d6, d7, d8, d9, d10, d11, d12, (.int .i64 v33), (.int .i64 (len29 : Int)), (.bool (decide (v33 < (len29 : Int)))), (.int .i64 v33), (.ptr b41 o42), (.bool (!e45)), a60] H61 (by kernel_rfl) ?_
                  refine block_norm ?_
                  refine then_norm ?_
                  refine w_run [0, 0] ?_
                  refine t_done [(.ptr qb0 qo1), (.bool e22), d6, d7, d8, d9, d10, d11, d12, (.int .i64 (IntKind.wrap .i64 (v33 + 1))), (.int .i64 (len29 : Int)), (.bool (decide (v33 < (len29 : Int)))), (.int .i64 v33), (.ptr b41 o42), (.bool (!e45)), a60] H61 (by kernel_rfl) ?_
                  obtain ⟨m', hm, h⟩ := h
                  refine loop_norm ⟨m', hm, _, _, _, _, _, _, rfl, h⟩
              · replace h := h.2 ((is_not is_raw).f hc)
                refine t_gd false true (by kernel_rfl) (fun hn => by cases hn) (fun _ => ?_)
                refine t_gd false true (by kernel_rfl) (fun hn => by cases hn) (fun _ => ?_)
                refine t_gd false true (by kernel_rfl) (fun hn => by cases hn) (fun _ => ?_)
                refine t_done [(.ptr qb0 qo1), (.bool e22), d6, d7, d8, d9, d10, d11, d12, (.int .i64 v33), (.int .i64 (len29 : Int)), (.bool (decide (v33 < (len29 : Int)))), (.int .i64 v33), (.ptr b41 o42), (.bool false), ahead38] H39 (by kernel_rfl) ?_
                refine then_norm ?_
                refine w_cond (t := false) rfl (fun hc => by cases hc) (fun _ => ?_)
                refine w_skip ?_
                refine then_norm ?_
                refine w_run [0, 0, 1, 1, 1, 1, 1, 0] ?_
                refine t_ptr true b41 o42 H39 (by kernel_rfl) ?_
                refine t_op true (.fieldAddr 0 (.loc 0)) [.ptr b41 o42] H39 (.ptr b41 o42) H39 (by kernel_rfl) rfl ?_
                obtain ⟨e63, hl, h⟩ := h
                refine t_load true none b41 o42 (.int .i64 e63) H39 (by kernel_rfl) hl ?_
                obtain ⟨b64, H65, hb⟩ : ∃ b H', NewB H39 1 [(.int .i64 e63)] b H' := ⟨_, _, rfl, rfl⟩
                replace h := h b64 H65 hb
                refine t_bs true 1 [(.int .i64 0)] [(0, 1, .loc 0)] 1 [(.int .i64 e63)] [(.int .i64 e63)] b64 H65 H39 (by kernel_rfl) (fill_c (vs := [(.int .i64 e63)]) (size := 1) rfl (by kernel_rfl) (by kernel_rfl) (by kernel_rfl)) hb ?_
                obtain ⟨a66, H67, ha, h⟩ := h
                refine t_app true 1 8 ahead38 (.slice b64 0 1 (some 1)) a66 H67 H65 (by kernel_rfl) ha ?_
                refine t_done [(.ptr qb0 qo1), (.bool e22), d6, d7, d8, d9, d10, d11, d12, (.int .i64 v33), (.int .i64 (len29 : Int)), (.bool (decide (v33 < (len29 : Int)))), (.int .i64 v33), (.ptr b41 o42), (.bool false), a66] H67 (by kernel_rfl) ?_
                refine block_norm ?_
                refine then_norm ?_
                refine w_run [0, 0] ?_
                refine t_done [(.ptr qb0 qo1), (.bool e22), d6, d7, d8, d9, d10, d11, d12, (.int .i64 (IntKind.wrap .i64 (v33 + 1))), (.int .i64 (len29 : Int)), (.bool (decide (v33 < (len29 : Int)))), (.int .i64 v33), (.ptr b41 o42), (.bool false), a66] H67 (by kernel_rfl) ?_
                obtain ⟨m', hm, h⟩ := h
                refine loop_norm ⟨m', hm, _, _, _, _, _, _, rfl, h⟩
            · replace h := h.2 ((is_not is_raw).f hc)
              refine t_gd false true (by kernel_rfl) (fun hn => by cases hn) (fun _ => ?_)
              refine t_gd false true (by kernel_rfl) (fun hn => by cases hn) (fun _ => ?_)
              refine t_gd false true (by kernel_rfl) (fun hn => by cases hn) (fun _ => ?_)
              refine t_gd false true (by kernel_rfl) (fun hn => by cases hn) (fun _ => ?_)
              refine t_gd false true (by kernel_rfl) (fun hn => by cases hn) (fun _ => ?_)
              refine t_gd false true (by kernel_rfl) (fun hn => by cases hn) (fun _ => ?_)
              refine t_gd false true (by kernel_rfl) (fun hn => by cases hn) (fun _ => ?_)
              refine t_done [(.ptr qb0 qo1), (.bool e22), d6, d7, d8, d9, d10, d11, d12, (.int .i64 v33), (.int .i64 (len29 : Int)), (.bool (decide (v33 < (len29 : Int)))), (.int .i64 v33), (.ptr b41 o42), (.bool false), ahead38] H39 (by kernel_rfl) ?_
              refine then_norm ?_
              refine w_cond (t := false) rfl (fun hc => by cases hc) (fun _ => ?_)
              refine w_skip ?_
              refine then_norm ?_
              refine w_run [0, 0, 1, 1, 1, 1, 1, 0] ?_
              refine t_ptr true b41 o42 H39 (by kernel_rfl) ?_
              refine t_op true (.fieldAddr 0 (.loc 0)) [.ptr b41 o42] H39 (.ptr b41 o42) H39 (by kernel_rfl) rfl ?_
              obtain ⟨e69, hl, h⟩ := h
              refine t_load true none b41 o42 (.int .i64 e69) H39 (by kernel_rfl) hl ?_
              obtain ⟨b70, H71, hb⟩ : ∃ b H', NewB H39 1 [(.int .i64 e69)] b H' := ⟨_, _, rfl, rfl⟩
              replace h := h b70 H71 hb
              refine t_bs true 1 [(.int .i64 0)] [(0, 1, .loc 0)] 1 [(.int .i64 e69)] [(.int .i64 e69)] b70 H71 H39 (by kernel_rfl) (fill_c (vs := [(.int .i64 e69)]) (size := 1) rfl (by kernel_rfl) (by kernel_rfl) (by kernel_rfl)) hb ?_
              obtain ⟨a72, H73, ha, h⟩ := h
              refine t_app true 1 8 ahead38 (.slice b70 0 1 (some 1)) a72 H73 H71 (by kernel_rfl) ha ?_
              refine t_done [(.ptr qb0 qo1), (.bool e22), d6, d7, d8, d9, d10, d11, d12, (.int .i64 v33), (.int .i64 (len29 : Int)), (.bool (decide (v33 < (len29 : Int)))), (.int .i64 v33), (.ptr b41 o42), (.bool false), a72] H73 (by kernel_rfl) ?_
              refine block_norm ?_
              refine then_norm ?_
              refine w_run [0, 0] ?_
              refine t_done [(.ptr qb0 qo1), (.bool e22), d6, d7, d8, d9, d10, d11, d12, (.int .i64 (IntKind.wrap .i64 (v33 + 1))), (.int .i64 (len29 : Int)), (.bool (decide (v33 < (len29 : Int)))), (.int .i64 v33), (.ptr b41 o42), (.bool false), a72] H73 (by kernel_rfl) ?_
              obtain ⟨m', hm, h⟩ := h
              refine loop_norm ⟨m', hm, _, _, _, _, _, _, rfl, h⟩
          · replace h := h.2 (is_dec.f hc)
            refine w_exit ?_
            refine then_exit ?_
            refine loop_exit ?_
            refine block_exit ?_
            exact body_norm (vs := []) _ (by kernel_rfl) rfl h
      · replace h := h.1 (is_raw.t hc)
        refine t_gd true false (by kernel_rfl) (fun hn => by cases hn) (fun _ => ?_)
        refine t_gd true false (by kernel_rfl) (fun hn => by cases hn) (fun _ => ?_)
        refine t_gd true false (by kernel_rfl) (fun hn => by cases hn) (fun _ => ?_)
        refine t_gd true false (by kernel_rfl) (fun hn => by cases hn) (fun _ => ?_)
        refine t_gd true false (by kernel_rfl) (fun hn => by cases hn) (fun _ => ?_)
        refine t_gd true false (by kernel_rfl) (fun hn => by cases hn) (fun _ => ?_)
        refine t_gd true true (by kernel_rfl) (fun _ => ?_) (fun hn => by cases hn)
        refine t_done [(.ptr qb0 qo1), (.bool true), d6, d7, d8, d9, d10, d11, d12, .undef, .undef, .undef, .undef, .undef, .undef, .undef] H13 (by kernel_rfl) ?_
        refine then_norm ?_
        refine w_cond (t := true) rfl (fun _ => ?_) (fun hc => by cases hc)
        refine w_skip ?_
        refine join_norm ⟨_, rfl, rfl, h⟩
    · replace h := h.2 (is_dec.f hc)
      refine t_gd false true (by kernel_rfl) (fun hn => by cases hn) (fun _ => ?_)
      refine t_gd false true (by kernel_rfl) (fun hn => by cases hn) (fun _ => ?_)
      refine t_gd false true (by kernel_rfl) (fun hn => by cases hn) (fun _ => ?_)
      refine t_gd false true (by kernel_rfl) (fun hn => by cases hn) (fun _ => ?_)
      refine t_gd false true (by kernel_rfl) (fun hn => by cases hn) (fun _ => ?_)
      refine t_gd false true (by kernel_rfl) (fun hn => by cases hn) (fun _ => ?_)
      refine t_gd false true (by kernel_rfl) (fun hn => by cases hn) (fun _ => ?_)
      refine t_gdU false (by kernel_rfl) ?_
      refine t_gdU false (by kernel_rfl) ?_
      refine t_gdU false (by kernel_rfl) ?_
      refine t_gdU false (by kernel_rfl) ?_
      refine t_gdU false (by kernel_rfl) ?_
      refine t_gdU false (by kernel_rfl) ?_
      refine t_gdU false (by kernel_rfl) ?_
      refine t_gd false true (by kernel_rfl) (fun hn => by cases hn) (fun _ => ?_)
      refine t_done [(.ptr qb0 qo1), (.bool false), d6, d7, d8, d9, d10, d11, d12, .undef, .undef, .undef, .undef, .undef, .undef, .undef] H13 (by kernel_rfl) ?_
      refine then_norm ?_
      refine w_cond (t := false) rfl (fun hc => by cases hc) (fun _ => ?_)
      refine w_exit ?_
      refine join_exit ?_
      refine then_exit ?_
      refine loop_exit ?_
      refine block_exit ?_
      refine then_norm ?_
      refine w_seq ?_
      refine w_run [0] ?_
      refine t_done [(.ptr qb0 qo1), (.bool false), d6, d7, d8, d9, d10, d11, d12, .undef, .undef, .undef, .undef, .undef, .undef, .empty] H13 (by kernel_rfl) ?_
      refine then_norm ?_
      refine w_seq ?_
      refine w_run [0, 1, 1, 1, 1, 0, 1, 1, 1, 0, 1, 1, 1, 1, 1, 0, 1, 1, 0] ?_
      refine t_ptr false qb0 qo1 H13 (by kernel_rfl) ?_
      refine t_op false (.fieldAddr 0 (.loc 0)) [.ptr qb0 qo1] H13 (.ptr qb0 qo1) H13 (by kernel_rfl) rfl ?_
      refine t_op false (.fieldAddr 0 (.loc 0)) [.ptr qb0 qo1] H13 (.ptr qb0 qo1) H13 (by kernel_rfl) rfl ?_
      obtain ⟨e75, hl, h⟩ := h
      refine t_load false none qb0 qo1 e75 H13 (by kernel_rfl) hl ?_
      refine t_ptr false qb0 qo1 H13 (by kernel_rfl) ?_
      refine t_op false (.fieldAddr 3 (.loc 0)) [.ptr qb0 qo1] H13 (.ptr qb0 (qo1 + 3)) H13 (by kernel_rfl) rfl ?_
      obtain ⟨e76, hl, h⟩ := h
      refine t_load false none qb0 (qo1 + 3) (.int .i64 e76) H13 (by kernel_rfl) hl ?_
      refine t_ptr false qb0 qo1 H13 (by kernel_rfl) ?_
      refine t_op false (.fieldAddr 0 (.loc 0)) [.ptr qb0 qo1] H13 (.ptr qb0 qo1) H13 (by kernel_rfl) rfl ?_
      refine t_op false (.fieldAddr 0 (.loc 0)) [.ptr qb0 qo1] H13 (.ptr qb0 qo1) H13 (by kernel_rfl) rfl ?_
      obtain ⟨e77, hl, h⟩ := h
      refine t_load false none qb0 qo1 e77 H13 (by kernel_rfl) hl ?_
      obtain ⟨len78, hl, h⟩ := h
      refine t_len false e77 len78 H13 (by kernel_rfl) hl ?_
      obtain ⟨s79, hs, h⟩ := h
      refine t_slcH true 6 e75 (.int .i64 (imin e76 (len78 : Int))) s79 H13 (by kernel_rfl) hs ?_
      obtain ⟨len80, hl, h⟩ := h
      refine t_len true s79 len80 H13 (by kernel_rfl) hl ?_
      refine t_done [(.ptr qb0 qo1), (.bool false), d6, d7, d8, d9, d10, d11, d12, (.int .i64 0), (.int .i64 (len80 : Int)), .undef, .undef, .undef, .undef, .empty] H13 (by kernel_rfl) ?_
      refine then_norm ?_
      refine w_block ?_
      obtain ⟨J81, k82, h0, h⟩ := h
      refine w_loop (I := fun mI EI HI => ∃ (v84 : Int) (d85 : AV) (d86 : AV) (d87 : AV) (d88 : AV) (ahead89 : AV), EI = [(.ptr qb0 qo1), (.bool false), d6, d7, d8, d9, d10, d11, d12, (.int .i64 v84), (.int .i64 (len80 : Int)), d85, d86, d87, d88, ahead89] ∧ J81 mI v84 ahead89 HI) ?_ k82 ⟨_, _, _, _, _, _, rfl, h0⟩
      clear h0
      rintro m83 EI H90 ⟨v84, d85, d86, d87, d88, ahead89, rfl, hJ⟩
      replace h := h m83 v84 ahead89 H90 hJ
      clear hJ
      refine w_seq ?_
      refine w_run [0] ?_
      refine t_done [(.ptr qb0 qo1), (.bool false), d6, d7, d8, d9, d10, d11, d12, (.int .i64 v84), (.int .i64 (len80 : Int)), (.bool (decide (v84 < (len80 : Int)))), d86, d87, d88, ahead89] H90 (by kernel_rfl) ?_
      refine then_norm ?_
      refine w_seq ?_
      refine w_cond (t := (decide (v84 < (len80 : Int)))) rfl (fun hc => ?_) (fun hc => ?_)
      · replace h := h.1 (is_dec.t hc)
        refine w_skip ?_
        refine then_norm ?_
        refine w_seq ?_
        refine w_block ?_
        refine w_seq ?_
        refine w_run [0, 0] ?_
        refine t_done [(.ptr qb0 qo1), (.bool false), d6, d7, d8, d9, d10, d11, d12, (.int .i64 v84), (.int .i64 (len80 : Int)), (.bool (decide (v84 < (len80 : Int)))), (.int .i64 v84), d87, d88, ahead89] H90 (by kernel_rfl) ?_
        refine then_norm ?_
        refine w_seq ?_
        refine w_run [0, 1, 1, 1, 1, 0, 1, 0] ?_
        refine t_ptr true qb0 qo1 H90 (by kernel_rfl) ?_
        refine t_op true (.fieldAddr 0 (.loc 0)) [.ptr qb0 qo1] H90 (.ptr qb0 qo1) H90 (by kernel_rfl) rfl ?_
        refine t_op true (.fieldAddr 0 (.loc 0)) [.ptr qb0 qo1] H90 (.ptr qb0 qo1) H90 (by kernel_rfl) rfl ?_
        obtain ⟨e91, hl, h⟩ := h
        refine t_load true none qb0 qo1 e91 H90 (by kernel_rfl) hl ?_
        obtain ⟨b92, o93, hp, h⟩ := h
        refine t_idx true 6 e91 .i64 v84 b92 o93 H90 (by kernel_rfl) hp ?_
        refine t_done [(.ptr qb0 qo1), (.bool false), d6, d7, d8, d9, d10, d11, d12, (.int .i64 v84), (.int .i64 (len80 : Int)), (.bool (decide (v84 < (len80 : Int)))), (.int .i64 v84), (.ptr b92 o93), d88, ahead89] H90 (by kernel_rfl) ?_
        refine then_norm ?_
        refine w_seq ?_
        refine w_seq ?_
        refine w_run [0, 1, 1, 1, 0, 0, 0, 3, 3, 3, 2, 0, 0, 0, 3, 3, 3, 2, 0] ?_
        refine t_ptr true b92 o93 H90 (by kernel_rfl) ?_
        refine t_op true (.fieldAddr 2 (.loc 0)) [.ptr b92 o93] H90 (.ptr b92 (o93 + 2)) H90 (by kernel_rfl) rfl ?_
        obtain ⟨e94, hl, h⟩ := h
        refine t_load true none b92 (o93 + 2) (.bool e94) H90 (by kernel_rfl) hl ?_
        refine t_gd (!e94) true (by kernel_rfl) (fun hc => ?_) (fun hc => ?_)
        · replace h := h.1 ((is_not is_raw).t hc)
          refine t_ptr true b92 o93 H90 (by kernel_rfl) ?_
          refine t_gd true true (by kernel_rfl) (fun _ => ?_) (fun hn => by cases hn)
          refine t_op true (.fieldAddr 3 (.loc 0)) [.ptr b92 o93] H90 (.ptr b92 (o93 + 3)) H90 (by kernel_rfl) rfl ?_
          refine t_gd true true (by kernel_rfl) (fun _ => ?_) (fun hn => by cases hn)
          obtain ⟨e95, hl, h⟩ := h
          refine t_load true none b92 (o93 + 3) (.bool e95) H90 (by kernel_rfl) hl ?_
          refine t_gd true true (by kernel_rfl) (fun _ => ?_) (fun hn => by cases hn)
          refine t_gd (!e95) true (by kernel_rfl) (fun hc => ?_) (fun hc => ?_)
          · replace h := h.1 ((is_not is_raw).t hc)
            refine t_ptr true b92 o93 H90 (by kernel_rfl) ?_
            refine t_gd true true (by kernel_rfl) (fun _ => ?_) (fun hn => by cases hn)
            refine t_op true (.fieldAddr 4 (.loc 0)) [.ptr b92 o93] H90 (.ptr b92 (o93 + 4)) H90 (by kernel_rfl) rfl ?_
            refine t_gd true true (by kernel_rfl) (fun _ => ?_) (fun hn => by cases hn)
            obtain ⟨e96, hl, h⟩ := h
            refine t_load true none b92 (o93 + 4) (.bool e96) H90 (by kernel_rfl) hl ?_
            refine t_gd true true (by kernel_rfl) (fun _ => ?_) (fun hn => by cases hn)
            refine t_done [(.ptr qb0 qo1), (.bool false), d6, d7, d8, d9, d10, d11, d12, (.int .i64 v84), (.int .i64 (len80 : Int)), (.bool (decide (v84 < (len80 : Int)))), (.int .i64 v84), (.ptr b92 o93), (.bool (!e96)), ahead89] H90 (by kernel_rfl) ?_
            refine then_norm ?_
            refine w_cond (t := (!e96)) rfl (fun hc => ?_) (fun hc => ?_)
            · replace h := h.1 ((is_not is_raw).t hc)
              refine w_run [0, 0, 0, 1, 1, 1, 1, 1, 1, 1] ?_
              refine t_call true nslices_Clone__int_int [ahead89] H90 (by kernel_rfl) h ?_
              clear h
              rintro r97 H98 h
              refine t_ptr true b92 o93 H98 (by kernel_rfl) ?_
              refine t_op true (.fieldAddr 2 (.loc 0)) [.ptr b92 o93] H98 (.ptr b92 (o93 + 2)) H98 (by kernel_rfl) rfl ?_
              obtain ⟨H100, hp, h⟩ := h
              refine t_store true 1 b92 (o93 + 2) (.bool true) H100 H98 (by kernel_rfl) hp ?_
              refine t_ptr true b92 o93 H100 (by kernel_rfl) ?_
              refine t_op true (.fieldAddr 5 (.loc 0)) [.ptr b92 o93] H100 (.ptr b92 (o93 + 5)) H100 (by kernel_rfl) rfl ?_
              obtain ⟨H101, hp, h⟩ := h
              refine t_store true 1 b92 (o93 + 5) r97 H101 H100 (by kernel_rfl) hp ?_
              refine t_done [(.ptr qb0 qo1), (.bool false), d6, d7, d8, d9, d10, d11, d12, (.int .i64 v84), (.int .i64 (len80 : Int)), (.bool (decide (v84 < (len80 : Int)))), (.int .i64 v84), (.ptr b92 o93), (.bool (!e96)), ahead89] H101 (by kernel_rfl) ?_
              refine then_norm ?_
              refine w_run [0, 0, 1, 1, 1, 1, 1, 0] ?_
              refine t_ptr true b92 o93 H101 (by kernel_rfl) ?_
              refine t_op true (.fieldAddr 0 (.loc 0)) [.ptr b92 o93] H101 (.ptr b92 o93) H101 (by kernel_rfl) rfl ?_
              obtain ⟨e102, hl, h⟩ := h
              refine t_load true none b92 o93 (.int .i64 e102) H101 (by kernel_rfl) hl ?_
              obtain ⟨b103, H104, hb⟩ : ∃ b H', NewB H101 1 [(.int .i64 e102)] b H' := ⟨_, _, rfl, rfl⟩
              replace h := h b103 H104 hb
              refine t_bs true 1 [(.int .i64 0)] [(0, 1, .loc 0)] 1 [(.int .i64 e102)] [(.int .i64 e102)] b103 H104 H101 (by kernel_rfl) (fill_c (vs := [(.int .i64 e102)]) (size := 1) rfl (by kernel_rfl) (by kernel_rfl) (by kernel_rfl)) hb ?_
              obtain ⟨a105, H106, ha, h⟩ := h
              refine t_app true 1 8 ahead89 (.slice b103 0 1 (some 1)) a105 H106 H104 (by kernel_rfl) ha ?_
              refine t_done [(.ptr qb0 qo1), (.bool false), d6, d7, d8, d9, d10, d11, d12, (.int .i64 v84), (.int .i64 (len80 : Int)), (.bool (decide (v84 < (len80 : Int)))), (.int .i64 v84), (.ptr b92 o93), (.bool (!e96)), a105] H106 (by kernel_rfl) ?_
              refine block_norm ?_
              refine then_norm ?_
              refine w_run [0, 0] ?_
              refine t_done [(.ptr qb0 qo1), (.bool false), d6, d7, d8, d9, d10, d11, d12, (.int .i64 (IntKind.wrap .i64 (v84 + 1))), (.int .i64 (len80 : Int)), (.bool (decide (v84 < (len80 : Int)))), (.int .i64 v84), (.ptr b92 o93), (.bool (!e96)), a105] H106 (by kernel_rfl) ?_
              obtain ⟨m', hm, h⟩ := h
              refine loop_norm ⟨m', hm, _, _, _, _, _, _, rfl, h⟩
            · replace h := h.2 ((is_not is_raw).f hc)
              refine w_skip ?_
              refine then_norm ?_
              refine w_run [0, 0, 1, 1, 1, 1, 1, 0] ?_
              refine t_ptr true b92 o93 H90 (by kernel_rfl) ?_
              refine t_op true (.fieldAddr 0 (.loc 0)) [.ptr b92 o93] H90 (.ptr b92 o93) H90 (by kernel_rfl) rfl ?_
              obtain ⟨e108, hl, h⟩ := h
              refine t_load true none b92 o93 (.int .i64 e108) H90 (by kernel_rfl) hl ?_
              obtain ⟨b109, H110, hb⟩ : ∃ b H', NewB H90 1 [(.int .i64 e108)] b H' := ⟨_, _, rfl, rfl⟩
              replace h := h b109 H110 hb
              refine t_bs true 1 [(.int .i64 0)] [(0, 1, .loc 0)] 1 [(.int .i64 e108)] [(.int .i64 e108)] b109 H110 H90 (by kernel_rfl) (fill_c (vs := [(.int .i64 e108)]) (size := 1) rfl (by kernel_rfl) (by kernel_rfl) (by kernel_rfl)) hb ?_
              obtain ⟨a111, H112, ha, h⟩ := h
              refine t_app true 1 8 ahead89 (.slice b109 0 1 (some 1)) a111 H112 H110 (by kernel_rfl) ha ?_
              refine t_done [(.ptr qb0 qo1), (.bool false), d6, d7, d8, d9, d10, d11, d12, (.int .i64 v84), (.int .i64 (len80 : Int)), (.bool (decide (v84 < (len80 : Int)))), (.int .i64 v84), (.ptr b92 o93), (.bool (!e96)), a111] H112 (by kernel_rfl) ?_
              refine block_norm ?_
              refine then_norm ?_
              refine w_run [0, 0] ?_
              refine t_done [(.ptr qb0 qo1), (.bool false), d6, d7, d8, d9, d10, d11, d12, (.int .i64 (IntKind.wrap .i64 (v84 + 1))), (.int .i64 (len80 : Int)), (.bool (decide (v84 < (len80 : Int)))), (.int .i64 v84), (.ptr b92 o93), (.bool (!e96)), a111] H112 (by kernel_rfl) ?_
              obtain ⟨m', hm, h⟩ := h
              refine loop_norm ⟨m', hm, _, _, _, _, _, _, rfl, h⟩
          · replace h := h.2 ((is_not is_raw).f hc)
            refine t_gd false true (by kernel_rfl) (fun hn => by cases hn) (fun _ => ?_)
            refine t_gd false true (by kernel_rfl) (fun hn => by cases hn) (fun _ => ?_)
            refine t_gd false true (by kernel_rfl) (fun hn => by cases hn) (fun _ => ?_)
            refine t_done [(.ptr qb0 qo1), (.bool false), d6, d7, d8, d9, d10, d11, d12, (.int .i64 v84), (.int .i64 (len80 : Int)), (.bool (decide (v84 < (len80 : Int)))), (.int .i64 v84), (.ptr b92 o93), (.bool false), ahead89] H90 (by kernel_rfl) ?_
            refine then_norm ?_
            refine w_cond (t := false) rfl (fun hc => by cases hc) (fun _ => ?_)
            refine w_skip ?_
            refine then_norm ?_
            refine w_run [0, 0, 1, 1, 1, 1, 1, 0] ?_
            refine t_ptr true b92 o93 H90 (by kernel_rfl) ?_
            refine t_op true (.fieldAddr 0 (.loc 0)) [.ptr b92 o93] H90 (.ptr b92 o93) H90 (by kernel_rfl) rfl ?_
            obtain ⟨e114, hl, h⟩ := h
            refine t_load true none b92 o93 (.int .i64 e114) H90 (by kernel_rfl) hl ?_
            obtain ⟨b115, H116, hb⟩ : ∃ b H', NewB H90 1 [(.int .i64 e114)] b H' := ⟨_, _, rfl, rfl⟩
            replace h := h b115 H116 hb
            refine t_bs true 1 [(.int .i64 0)] [(0, 1, .loc 0)] 1 [(.int .i64 e114)] [(.int .i64 e114)] b115 H116 H90 (by kernel_rfl) (fill_c (vs := [(.int .i64 e114)]) (size := 1) rfl (by kernel_rfl) (by kernel_rfl) (by kernel_rfl)) hb ?_
            obtain ⟨a117, H118, ha, h⟩ := h
            refine t_app true 1 8 ahead89 (.slice b115 0 1 (some 1)) a117 H118 H116 (by kernel_rfl) ha ?_
            refine t_done [(.ptr qb0 qo1), (.bool false), d6, d7, d8, d9, d10, d11, d12, (.int .i64 v84), (.int .i64 (len80 : Int)), (.bool (decide (v84 < (len80 : Int)))), (.int .i64 v84), (.ptr b92 o93), (.bool false), a117] H118 (by kernel_rfl) ?_
            refine block_norm ?_
            refine then_norm ?_
            refine w_run [0, 0] ?_
            refine t_done [(.ptr qb0 qo1), (.bool false), d6, d7, d8, d9, d10, d11, d12, (.int .i64 (IntKind.wrap .i64 (v84 + 1))), (.int .i64 (len80 : Int)), (.bool (decide (v84 < (len80 : Int)))), (.int .i64 v84), (.ptr b92 o93), (.bool false), a117] H118 (by kernel_rfl) ?_
            obtain ⟨m', hm, h⟩ := h
            refine loop_norm ⟨m', hm, _, _, _, _, _, _, rfl, h⟩
        · replace h := h.2 ((is_not is_raw).f hc)
          refine t_gd false true (by kernel_rfl) (fun hn => by cases hn) (fun _ => ?_)
          refine t_gd false true (by kernel_rfl) (fun hn => by cases hn) (fun _ => ?_)
          refine t_gd false true (by kernel_rfl) (fun hn => by cases hn) (fun _ => ?_)
          refine t_gd false true (by kernel_rfl) (fun hn => by cases hn) (fun _ => ?_)
          refine t_gd false true (by kernel_rfl) (fun hn => by cases hn) (fun _ => ?_)
          refine t_gd false true (by kernel_rfl) (fun hn => by cases hn) (fun _ => ?_)
          refine t_gd false true (by kernel_rfl) (fun hn => by cases hn) (fun _ => ?_)
          refine t_done [(.ptr qb0 qo1), (.bool false), d6, d7, d8, d9, d10, d11, d12, (.int .i64 v84), (.int .i64 (len80 : Int)), (.bool (decide (v84 < (len80 : Int)))), (.int .i64 v84), (.ptr b92 o93), (.bool false), ahead89] H90 (by kernel_rfl) ?_
          refine then_norm ?_
          refine w_cond (t := false) rfl (fun hc => by cases hc) (fun _ => ?_)
          refine w_skip ?_
          refine then_norm ?_
          refine w_run [0, 0, 1, 1, 1, 1, 1, 0] ?_
          refine t_ptr true b92 o93 H90 (by kernel_rfl) ?_
          refine t_op true (.fieldAddr 0 (.loc 0)) [.ptr b92 o93] H90 (.ptr b92 o93) H90 (by kernel_rfl) rfl ?_
          obtain ⟨e120, hl, h⟩ := h
          refine t_load true none b92 o93 (.int .i64 e120) H90 (by kernel_rfl) hl ?_
          obtain ⟨b121, H122, hb⟩ : ∃ b H', NewB H90 1 [(.int .i64 e120)] b H' := ⟨_, _, rfl, rfl⟩
          replace h := h b121 H122 hb
          refine t_bs true 1 [(.int .i64 0)] [(0, 1, .loc 0)] 1 [(.int .i64 e120)] [(.int .i64 e120)] b121 H122 H90 (by kernel_rfl) (fill_c (vs := [(.int .i64 e120)]) (size := 1) rfl (by kernel_rfl) (by kernel_rfl) (by kernel_rfl)) hb ?_
          obtain ⟨a123, H124, ha, h⟩ := h
          refine t_app true 1 8 ahead89 (.slice b121 0 1 (some 1)) a123 H124 H122 (by kernel_rfl) ha ?_
          refine t_done [(.ptr qb0 qo1), (.bool false), d6, d7, d8, d9, d10, d11, d12, (.int .i64 v84), (.int .i64 (len80 : Int)), (.bool (decide (v84 < (len80 : Int)))), (.int .i64 v84), (.ptr b92 o93), (.bool false), a123] H124 (by kernel_rfl) ?_
          refine block_norm ?_
          refine then_norm ?_
          refine w_run [0, 0] ?_
          refine t_done [(.ptr qb0 qo1), (.bool false), d6, d7, d8, d9, d10, d11, d12, (.int .i64 (IntKind.wrap .i64 (v84 + 1))), (.int .i64 (len80 : Int)), (.bool (decide (v84 < (len80 : Int)))), (.int .i64 v84), (.ptr b92 o93), (.bool false), a123] H124 (by kernel_rfl) ?_
          obtain ⟨m', hm, h⟩ := h
          refine loop_norm ⟨m', hm, _, _, _, _, _, _, rfl, h⟩
      · replace h := h.2 (is_dec.f hc)
        refine w_exit ?_
        refine then_exit ?_
        refine loop_exit ?_
        refine block_exit ?_
        exact body_norm (vs := []) _ (by kernel_rfl) rfl h
  · clear h
    rintro EI HI ⟨d15, rfl, rfl, hJ⟩
    have h := hK  hJ
    clear hJ hK
    refine then_norm ?_
    refine w_block ?_
    refine w_seq ?_
    refine w_run [0, 1, 1, 1, 1, 1, 1, 1, 1] ?_
    refine t_ptr true qb0 qo1 H13 (by kernel_rfl) ?_
    refine t_op true (.fieldAddr 0 (.loc 0)) [.ptr qb0 qo1] H13 (.ptr qb0 qo1) H13 (by kernel_rfl) rfl ?_
    refine t_op true (.fieldAddr 0 (.loc 0)) [.ptr qb0 qo1] H13 (.ptr qb0 qo1) H13 (by kernel_rfl) rfl ?_
    obtain ⟨e126, hl, h⟩ := h
    refine t_load true none qb0 qo1 e126 H13 (by kernel_rfl) hl ?_
    obtain ⟨e127, e128, e129, e130, e131, e132, hg133, h⟩ := h
    refine t_idxG true 6 e126 .i64 0 H13 (by kernel_rfl) hg133 ?_
    refine t_loadG true (some 6) 6 e126 0 0 (.agg [(.int .i64 e127), (.int .i64 e128), (.bool e129), (.bool e130), (.bool e131), e132]) H13 (by kernel_rfl) hg133 ?_
    obtain ⟨b134, H135, hb⟩ : ∃ b H', NewB H13 1 [(.int .i64 0), (.int .i64 0), (.bool false), (.bool false), (.bool false), .empty] b H' := ⟨_, _, rfl, rfl⟩
    replace h := h b134 H135 hb
    refine t_alloc true 1 [(.int .i64 0), (.int .i64 0), (.bool false), (.bool false), (.bool false), .empty] b134 H135 H13 (by kernel_rfl) hb ?_
    obtain ⟨H136, hp, h⟩ := h
    refine t_store true 6 b134 0 (.agg [(.int .i64 e127), (.int .i64 e128), (.bool e129), (.bool e130), (.bool e131), e132]) H136 H135 (by kernel_rfl) hp ?_
    refine t_done [(.ptr qb0 qo1), d15, (.ptr b134 0), d7, d8, d9, d10, d11, d12, .undef, .undef, .undef, .undef, .undef, .undef, .undef] H136 (by kernel_rfl) ?_
    refine then_norm ?_
    refine w_seq ?_
    refine w_seq ?_
    refine w_run [1, 1] ?_
    refine t_op true (.fieldAddr 4 (.loc 0)) [.ptr b134 0] H136 (.ptr b134 (0 + 4)) H136 (by kernel_rfl) rfl ?_
    obtain ⟨e137, hl, h⟩ := h
    refine t_load true none b134 (0 + 4) (.bool e137) H136 (by kernel_rfl) hl ?_
    refine t_done [(.ptr qb0 qo1), d15, (.ptr b134 0), (.bool e137), d8, d9, d10, d11, d12, .undef, .undef, .undef, .undef, .undef, .undef, .undef] H136 (by kernel_rfl) ?_
    refine then_norm ?_
    refine w_cond (t := e137) rfl (fun hc => ?_) (fun hc => ?_)
    · replace h := h.1 (is_raw.t hc)
      refine w_seq ?_
      refine w_run [0, 1] ?_
      refine t_call true nmergequeue_queue_remove [(.ptr qb0 qo1), (.int .i64 0)] H136 (by kernel_rfl) h ?_
      clear h
      rintro _ H138 ⟨rfl, h⟩
      refine t_done [(.ptr qb0 qo1), d15, (.ptr b134 0), (.bool e137), d8, d9, d10, d11, d12, .undef, .undef, .undef, .undef, .undef, .undef, .undef] H138 (by kernel_rfl) ?_
      refine then_norm ?_
      refine w_seq ?_
      refine w_run [0, 0, 1, 1, 1, 1, 1, 1, 1, 1, 1, 1, 1, 1] ?_
      refine t_ptr false qb0 qo1 H138 (by kernel_rfl) ?_
      refine t_op false (.fieldAddr 0 (.loc 0)) [.ptr qb0 qo1] H138 (.ptr qb0 qo1) H138 (by kernel_rfl) rfl ?_
      refine t_op false (.fieldAddr 2 (.loc 0)) [.ptr qb0 qo1] H138 (.ptr qb0 (qo1 + 2)) H138 (by kernel_rfl) rfl ?_
      obtain ⟨e140, hl, h⟩ := h
      refine t_load false none qb0 (qo1 + 2) e140 H138 (by kernel_rfl) hl ?_
      refine t_op false (.fieldAddr 0 (.loc 0)) [.ptr b134 0] H138 (.ptr b134 0) H138 (by kernel_rfl) rfl ?_
      obtain ⟨e141, hl, h⟩ := h
      refine t_load false none b134 0 (.int .i64 e141) H138 (by kernel_rfl) hl ?_
      obtain ⟨b142, H143, hb⟩ : ∃ b H', NewB H138 1 [(.int .i64 e141)] b H' := ⟨_, _, rfl, rfl⟩
      replace h := h b142 H143 hb
      refine t_bs false 1 [(.int .i64 0)] [(0, 1, .loc 0)] 1 [(.int .i64 e141)] [(.int .i64 e141)] b142 H143 H138 (by kernel_rfl) (fill_c (vs := [(.int .i64 e141)]) (size := 1) rfl (by kernel_rfl) (by kernel_rfl) (by kernel_rfl)) hb ?_
      obtain ⟨a144, H145, ha, h⟩ := h
      refine t_app true 1 8 e140 (.slice b142 0 1 (some 1)) a144 H145 H143 (by kernel_rfl) ha ?_
      refine t_ptr true qb0 qo1 H145 (by kernel_rfl) ?_
      refine t_op true (.fieldAddr 0 (.loc 0)) [.ptr qb0 qo1] H145 (.ptr qb0 qo1) H145 (by kernel_rfl) rfl ?_
      refine t_op true (.fieldAddr 2 (.loc 0)) [.ptr qb0 qo1] H145 (.ptr qb0 (qo1 + 2)) H145 (by kernel_rfl) rfl ?_
      obtain ⟨H146, hp, h⟩ := h
      refine t_store true 1 qb0 (qo1 + 2) a144 H146 H145 (by kernel_rfl) hp ?_
      refine t_done [(.ptr qb0 qo1), d15, (.ptr b134 0), (.bool e137), d8, d9, d10, d11, d12, .undef, .undef, .undef, .undef, .undef, .undef, .undef] H146 (by kernel_rfl) ?_
      refine then_norm ?_
      refine w_exit ?_
      refine then_exit ?_
      refine block_exit ?_
      obtain ⟨m', hm, h⟩ := h
      refine loop_norm ⟨m', hm, _, _, _, _, _, _, _, _, rfl, h⟩
    · replace h := h.2 (is_raw.f hc)
      refine w_skip ?_
      refine then_norm ?_
      refine w_seq ?_
      refine w_run [0, 0, 1, 1, 1, 1, 1, 1, 1, 1, 1] ?_
      refine t_ptr true qb0 qo1 H136 (by kernel_rfl) ?_
      refine t_op true (.fieldAddr 0 (.loc 0)) [.ptr qb0 qo1] H136 (.ptr qb0 qo1) H136 (by kernel_rfl) rfl ?_
      refine t_op true (.fieldAddr 0 (.loc 0)) [.ptr qb0 qo1] H136 (.ptr qb0 qo1) H136 (by kernel_rfl) rfl ?_
      obtain ⟨e148, hl, h⟩ := h
      refine t_load true none qb0 qo1 e148 H136 (by kernel_rfl) hl ?_
      obtain ⟨s149, hs, h⟩ := h
      refine t_slcL true 6 e148 (.int .i64 1) s149 H136 (by kernel_rfl) hs ?_
      refine t_ptr true qb0 qo1 H136 (by kernel_rfl) ?_
      refine t_op true (.fieldAddr 0 (.loc 0)) [.ptr qb0 qo1] H136 (.ptr qb0 qo1) H136 (by kernel_rfl) rfl ?_
      refine t_op true (.fieldAddr 0 (.loc 0)) [.ptr qb0 qo1] H136 (.ptr qb0 qo1) H136 (by kernel_rfl) rfl ?_
      obtain ⟨H150, hp, h⟩ := h
      refine t_store true 1 qb0 qo1 s149 H150 H136 (by kernel_rfl) hp ?_
      refine t_done [(.ptr qb0 qo1), d15, (.ptr b134 0), (.bool e137), d8, d9, d10, d11, d12, .undef, .undef, .undef, .undef, .undef, .undef, .undef] H150 (by kernel_rfl) ?_
      refine then_norm ?_
      refine w_seq ?_
      refine w_run [0, 0, 1, 1, 1, 1, 1, 1, 1, 1, 1, 1, 1, 1] ?_
      refine t_ptr false qb0 qo1 H150 (by kernel_rfl) ?_
      refine t_op false (.fieldAddr 0 (.loc 0)) [.ptr qb0 qo1] H150 (.ptr qb0 qo1) H150 (by kernel_rfl) rfl ?_
      refine t_op false (.fieldAddr 1 (.loc 0)) [.ptr qb0 qo1] H150 (.ptr qb0 (qo1 + 1)) H150 (by kernel_rfl) rfl ?_
      obtain ⟨e151, hl, h⟩ := h
      refine t_load false none qb0 (qo1 + 1) e151 H150 (by kernel_rfl) hl ?_
      refine t_op false (.fieldAddr 0 (.loc 0)) [.ptr b134 0] H150 (.ptr b134 0) H150 (by kernel_rfl) rfl ?_
      obtain ⟨e152, hl, h⟩ := h
      refine t_load false none b134 0 (.int .i64 e152) H150 (by kernel_rfl) hl ?_
      obtain ⟨b153, H154, hb⟩ : ∃ b H', NewB H150 1 [(.int .i64 e152)] b H' := ⟨_, _, rfl, rfl⟩
      replace h := h b153 H154 hb
      refine t_bs false 1 [(.int .i64 0)] [(0, 1, .loc 0)] 1 [(.int .i64 e152)] [(.int .i64 e152)] b153 H154 H150 (by kernel_rfl) (fill_c (vs := [(.int .i64 e152)]) (size := 1) rfl (by kernel_rfl) (by kernel_rfl) (by kernel_rfl)) hb ?_
      obtain ⟨a155, H156, ha, h⟩ := h
      refine t_app true 1 8 e151 (.slice b153 0 1 (some 1)) a155 H156 H154 (by kernel_rfl) ha ?_
      refine t_ptr true qb0 qo1 H156 (by kernel_rfl) ?_
      refine t_op true (.fieldAddr 0 (.loc 0)) [.ptr qb0 qo1] H156 (.ptr qb0 qo1) H156 (by kernel_rfl) rfl ?_
      refine t_op true (.fieldAddr 1 (.loc 0)) [.ptr qb0 qo1] H156 (.ptr qb0 (qo1 + 1)) H156 (by kernel_rfl) rfl ?_
      obtain ⟨H157, hp, h⟩ := h
      refine t_store true 1 qb0 (qo1 + 1) a155 H157 H156 (by kernel_rfl) hp ?_
      refine t_done [(.ptr qb0 qo1), d15, (.ptr b134 0), (.bool e137), d8, d9, d10, d11, d12, .undef, .undef, .undef, .undef, .undef, .undef, .undef] H157 (by kernel_rfl) ?_
      refine then_norm ?_
      refine w_seq ?_
      refine w_run [0, 1, 1, 1, 1, 1, 0] ?_
      refine t_ptr true qb0 qo1 H157 (by kernel_rfl) ?_
      refine t_op true (.fieldAddr 0 (.loc 0)) [.ptr qb0 qo1] H157 (.ptr qb0 qo1) H157 (by kernel_rfl) rfl ?_
      refine t_op true (.fieldAddr 0 (.loc 0)) [.ptr qb0 qo1] H157 (.ptr qb0 qo1) H157 (by kernel_rfl) rfl ?_
      obtain ⟨e158, hl, h⟩ := h
      refine t_load true none qb0 qo1 e158 H157 (by kernel_rfl) hl ?_
      obtain ⟨len159, hl, h⟩ := h
      refine t_len true e158 len159 H157 (by kernel_rfl) hl ?_
      refine t_done [(.ptr qb0 qo1), d15, (.ptr b134 0), (.bool e137), (.int .i64 0), (.int .i64 (len159 : Int)), d10, d11, d12, .undef, .undef, .undef, .undef, .undef, .undef, .undef] H157 (by kernel_rfl) ?_
      refine then_norm ?_
      refine w_block ?_
      obtain ⟨J160, k161, h0, h⟩ := h
      refine w_loop (I := fun mI EI HI => ∃ (v163 : Int) (d164 : AV) (d165 : AV) (d166 : AV), EI = [(.ptr qb0 qo1), d15, (.ptr b134 0), (.bool e137), (.int .i64 v163), (.int .i64 (len159 : Int)), d164, d165, d166, .undef, .undef, .undef, .undef, .undef, .undef, .undef] ∧ J160 mI v163 HI) ?_ k161 ⟨_, _, _, _, rfl, h0⟩
      clear h0
      rintro m162 EI H167 ⟨v163, d164, d165, d166, rfl, hJ⟩
      replace h := h m162 v163 H167 hJ
      clear hJ
      refine w_seq ?_
      refine w_run [0] ?_
      refine t_done [(.ptr qb0 qo1), d15, (.ptr b134 0), (.bool e137), (.int .i64 v163), (.int .i64 (len159 : Int)), (.bool (decide (v163 < (len159 : Int)))), d165, d166, .undef, .undef, .undef, .undef, .undef, .undef, .undef] H167 (by kernel_rfl) ?_
      refine then_norm ?_
      refine w_seq ?_
      refine w_cond (t := (decide (v163 < (len159 : Int)))) rfl (fun hc => ?_) (fun hc => ?_)
      · replace h := h.1 (is_dec.t hc)
        refine w_skip ?_
        refine then_norm ?_
        refine w_seq ?_
        refine w_block ?_
        refine w_seq ?_
        refine w_run [0, 0] ?_
        refine t_done [(.ptr qb0 qo1), d15, (.ptr b134 0), (.bool e137), (.int .i64 v163), (.int .i64 (len159 : Int)), (.bool (decide (v163 < (len159 : Int)))), (.int .i64 v163), d166, .undef, .undef, .undef, .undef, .undef, .undef, .undef] H167 (by kernel_rfl) ?_
        refine then_norm ?_
        refine w_seq ?_
        refine w_run [0, 1, 1, 1, 1, 0, 1, 0] ?_
        refine t_ptr true qb0 qo1 H167 (by kernel_rfl) ?_
        refine t_op true (.fieldAddr 0 (.loc 0)) [.ptr qb0 qo1] H167 (.ptr qb0 qo1) H167 (by kernel_rfl) rfl ?_
        refine t_op true (.fieldAddr 0 (.loc 0)) [.ptr qb0 qo1] H167 (.ptr qb0 qo1) H167 (by kernel_rfl) rfl ?_
        obtain ⟨e168, hl, h⟩ := h
        refine t_load true none qb0 qo1 e168 H167 (by kernel_rfl) hl ?_
        obtain ⟨b169, o170, hp, h⟩ := h
        refine t_idx true 6 e168 .i64 v163 b169 o170 H167 (by kernel_rfl) hp ?_
        refine t_done [(.ptr qb0 qo1), d15, (.ptr b134 0), (.bool e137), (.int .i64 v163), (.int .i64 (len159 : Int)), (.bool (decide (v163 < (len159 : Int)))), (.int .i64 v163), (.ptr b169 o170), .undef, .undef, .undef, .undef, .undef, .undef, .undef] H167 (by kernel_rfl) ?_
        refine then_norm ?_
        refine w_run [0, 0, 1, 1, 1, 1, 0, 1, 1, 1, 1] ?_
        refine t_ptr true b169 o170 H167 (by kernel_rfl) ?_
        refine t_op true (.fieldAddr 5 (.loc 0)) [.ptr b169 o170] H167 (.ptr b169 (o170 + 5)) H167 (by kernel_rfl) rfl ?_
        obtain ⟨e171, hl, h⟩ := h
        refine t_load true none b169 (o170 + 5) e171 H167 (by kernel_rfl) hl ?_
        refine t_call true nslices_Clone__int_int [e171] H167 (by kernel_rfl) h ?_
        clear h
        rintro r172 H173 h
        refine t_call true nslices_DeleteFunc__int_int [r172, (.func nmergequeue_queue_settlex1 [(.ptr b134 0)])] H173 (by kernel_rfl) h ?_
        clear h
        rintro r175 H176 h
        refine t_ptr true b169 o170 H176 (by kernel_rfl) ?_
        refine t_op true (.fieldAddr 5 (.loc 0)) [.ptr b169 o170] H176 (.ptr b169 (o170 + 5)) H176 (by kernel_rfl) rfl ?_
        obtain ⟨H178, hp, h⟩ := h
        refine t_store true 1 b169 (o170 + 5) r175 H178 H176 (by kernel_rfl) hp ?_
        refine t_done [(.ptr qb0 qo1), d15, (.ptr b134 0), (.bool e137), (.int .i64 v163), (.int .i64 (len159 : Int)), (.bool (decide (v163 < (len159 : Int)))), (.int .i64 v163), (.ptr b169 o170), .undef, .undef, .undef, .undef, .undef, .undef, .undef] H178 (by kernel_rfl) ?_
        refine block_norm ?_
        refine then_norm ?_
        refine w_run [0, 0] ?_
        refine t_done [(.ptr qb0 qo1), d15, (.ptr b134 0), (.bool e137), (.int .i64 (IntKind.wrap .i64 (v163 + 1))), (.int .i64 (len159 : Int)), (.bool (decide (v163 < (len159 : Int)))), (.int .i64 v163), (.ptr b169 o170), .undef, .undef, .undef, .undef, .undef, .undef, .undef] H178 (by kernel_rfl) ?_
        obtain ⟨m', hm, h⟩ := h
        refine loop_norm ⟨m', hm, _, _, _, _, rfl, h⟩
      · replace h := h.2 (is_dec.f hc)
        refine w_exit ?_
        refine then_exit ?_
        refine loop_exit ?_
        refine block_exit ?_
        refine block_norm ?_
        obtain ⟨m', hm, h⟩ := h
        refine loop_norm ⟨m', hm, _, _, _, _, _, _, _, _, rfl, h⟩

def rf_mergequeue_Run (nmergequeue_queue_step nmergequeue_queue_settle : Nat) : RFunc := ⟨2, 15, [.part 2 (some 3), .part 3 (some 2)],
 ((.seq (.ops [⟨.tomb 1 (.k (.agg [.empty, .empty, .empty])), none, (some 2), true⟩, ⟨.tomb 1 (.k (.agg [.int .i64 0, .int .i64 0])), none, (some 3), true⟩])
 ((.seq (.block 0 ((.seq (.ops [o1 (.move (.var 0)), o1 (.bin .lss .no (.loc 0) (.k (.int .i64 1))), o1 (.move (.loc 1)), o1 (.move (.var 0)), o1 (.bin .gtr .no (.loc 3) (.k (.int .i64 4))), o1 (.pick (.loc 2) (.k (.bool true)) (.loc 4)), ⟨.move (.loc 5), none, (some 4), true⟩])
 (.cond (.var 4) ((.seq (.ops [o1 (.build [.empty, .empty, .empty] []), o1 (.build [.int .i64 0, .int .i64 0] [(0, 1, (.k (.int .i64 3))), (1, 1, (.k (.int .i64 (-2))))]), ⟨.upd 3 0 (.var 2) (.loc 0), none, (some 2), true⟩, ⟨.upd 2 0 (.var 3) (.loc 1), none, (some 3), true⟩])
 (.ret))) ((.seq (.ops [o1 (.move (.var 1)), o1 (.len (.loc 0)), o1 (.bin .gtr .no (.loc 1) (.k (.int .i64 40))), ⟨.move (.loc 2), none, (some 5), true⟩])
 (.cond (.var 5) ((.seq (.ops [o1 (.build [.empty, .empty, .empty] []), o1 (.build [.int .i64 0, .int .i64 0] [(0, 1, (.k (.int .i64 2))), (1, 1, (.k (.int .i64 (-1))))]), ⟨.upd 3 0 (.var 2) (.loc 0), none, (some 2), true⟩, ⟨.upd 2 0 (.var 3) (.loc 1), none, (some 3), true⟩])
 (.ret))) (.skip))))))))
 ((.seq (.ops [o1 (.move (.var 0)), o1 (.build [.empty, .empty, .empty, .int .i64 0] [(3, 1, (.loc 0))]), ⟨.alloc 1 [.empty, .empty, .empty, .int .i64 0], none, (some 11), true⟩, o1 (.store 4 (.loc 2) (.loc 1) [])])
 ((.seq ((.seq (.ops [⟨.move (.var 1), none, (some 9), true⟩, ⟨.len (.loc 0), none, (some 7), true⟩, ⟨.move (.k (.int .i64 0)), none, (some 6), true⟩])
 (.block 1 (.loop ((.seq (.ops [⟨.bin .lss .no (.var 6) (.var 7), none, (some 8), true⟩])
 ((.seq (.cond (.var 8) (.skip) (.exit 1))
 ((.seq (.block 2 ((.seq (.ops [o1 (.move (.var 6)), o1 (.indexAddr 3 (.var 9) (.var 6)), o1 (.load (some 3) (.loc 1)), ⟨.tomb 1 (.k (.agg [.int .i64 0, .int .i64 0, .int .i64 0])), none, (some 10), true⟩, ⟨.move (.loc 0), none, (some 14), true⟩, ⟨.upd 3 0 (.loc 3) (.loc 2), none, (some 10), true⟩])
 ((.seq ((.seq (.ops [o1 (.field 0 (some 3) (.var 10)), o1 (.callS nmergequeue_queue_step [(.var 11), (.loc 0)]), ⟨.move (.loc 1), none, (some 12), true⟩])
 ((.seq (.ops [o1 (.move (.var 12)), ⟨.bin .neq .no (.loc 0) (.k (.int .i64 0)), none, (some 13), true⟩])
 (.cond (.var 13) ((.seq (.ops [o1 (.build [.empty, .empty, .empty] []), o1 (.move (.var 12)), o1 (.move (.var 14)), o1 (.build [.int .i64 0, .int .i64 0] [(0, 1, (.loc 1)), (1, 1, (.loc 2))]), ⟨.upd 3 0 (.var 2) (.loc 0), none, (some 2), true⟩, ⟨.upd 2 0 (.var 3) (.loc 3), none, (some 3), true⟩])
 (.ret))) (.skip))))))
 (.ops [o1 (.callS nmergequeue_queue_settle [(.var 11)])]))))))
 (.ops [o1 (.bin .add .no (.var 6) (.k (.int .i64 1))), ⟨.move (.loc 0), none, (some 6), true⟩])))))))))))
 ((.seq (.ops [o1 (.fieldAddr 0 (.var 11)), o1 (.load (some 3) (.loc 0)), o1 (.build [.int .i64 0, .int .i64 0] []), ⟨.upd 3 0 (.var 2) (.loc 1), none, (some 2), true⟩, ⟨.upd 2 0 (.var 3) (.loc 2), none, (some 3), true⟩])
 (.ret))))))))))), none⟩
theorem v_mergequeue_Run {F : Nat → Option RFunc} {me nmergequeue_queue_step nmergequeue_queue_settle : Nat} (hF : F me = some (rf_mergequeue_Run nmergequeue_queue_step nmergequeue_queue_settle)) {fl : Nat} {H : Heap} {Q : AV → Heap → Prop} (window0 : Int) (events1 : AV)
  (h : ∀ (H2 : Heap), Dead1 H 1 H2 → ∀ (H3 : Heap), Dead1 H2 1 H3 → ((((window0 < 1) ∨ (window0 > 4))) → Q (.tuple [(.agg [.empty, .empty, .empty]), (.agg [(.int .i64 3), (.int .i64 (-2))])]) H3) ∧ (¬(((window0 < 1) ∨ (window0 > 4))) → ∃ len4 : Nat, lenA events1 = some len4 ∧ (((len4 : Int) > 40) → Q (.tuple [(.agg [.empty, .empty, .empty]), (.agg [(.int .i64 2), (.int .i64 (-1))])]) H3) ∧ (¬((len4 : Int) > 40) → ∀ (b5 : Nat) (H6 : Heap), NewB H3 1 [.empty, .empty, .empty, (.int .i64 0)] b5 H6 → ∃ H7 : Heap, putA fl H6 b5 0 4 (.agg [.empty, .empty, .empty, (.int .i64 window0)]) = some H7 ∧ ∃ len8 : Nat, lenA events1 = some len8 ∧ ∃ (J9 : Nat → AV → AV → AV → Int → Int → Int → Heap → Prop) (k10 : Nat), J9 k10 .empty .empty .empty 0 0 0 H7 ∧ (∀ (m11 : Nat) (v12 : AV) (v13 : AV) (v14 : AV) (v15 : Int) (v16 : Int) (v17 : Int) (H23 : Heap), J9 m11 v12 v13 v14 v15 v16 v17 H23 → ((v17 < (len8 : Int)) → ∃ (e24 : Int) (e25 : Int) (e26 : Int), getA H23 3 (some 3) events1 v17 0 = some (.agg [(.int .i64 e24), (.int .i64 e25), (.int .i64 e26)]) ∧ ∀ (H28 : Heap), Dead1 H23 1 H28 → Ret F fl nmergequeue_queue_step [(.ptr b5 0), (.agg [(.int .i64 e24), (.int .i64 e25), (.int .i64 e26)])] H28 (fun v31 H30 => ∃ (r29 : Int), v31 = (.int .i64 r29) ∧ ((r29 ≠ 0) → Q (.tuple [(.agg [.empty, .empty, .empty]), (.agg [(.int .i64 r29), (.int .i64 v17)])]) H30) ∧ (¬(r29 ≠ 0) → Ret F fl nmergequeue_queue_settle [(.ptr b5 0)] H30 (fun v33 H32 => v33 = .undef ∧ ∃ m34 : Nat, m34 < m11 ∧ J9 m34 v12 v13 v14 v15 v16 (IntKind.wrap .i64 (v17 + 1)) H32)))) ∧ (¬(v17 < (len8 : Int)) → ∃ (e35 : AV) (e36 : AV) (e37 : AV), rload H23 (some 3) b5 0 = some (.agg [e35, e36, e37]) ∧ Scal e35 ∧ Scal e36 ∧ Scal e37 ∧ Q (.tuple [(.agg [e35, e36, e37]), (.agg [(.int .i64 0), (.int .i64 0)])]) H23))))) : Ret F fl me [(.int .i64 window0), events1] H Q := by
  refine ret_intro hF rfl ?_
  refine w_seq ?_
  refine w_run [1, 1] ?_
  obtain ⟨H2, hb⟩ : ∃ H', Dead1 H 1 H' := ⟨_, ⟨rfl⟩⟩
  replace h := h H2 hb
  refine t_tomb true 1 (.agg [.empty, .empty, .empty]) [.empty, .empty, .empty] H2 H (by kernel_rfl) rfl hb ?_
  obtain ⟨H3, hb⟩ : ∃ H', Dead1 H2 1 H' := ⟨_, ⟨rfl⟩⟩
  replace h := h H3 hb
  refine t_tomb true 1 (.agg [(.int .i64 0), (.int .i64 0)]) [(.int .i64 0), (.int .i64 0)] H3 H2 (by kernel_rfl) rfl hb ?_
  refine t_done [(.int .i64 window0), events1, (.agg [.empty, .empty, .empty]), (.agg [(.int .i64 0), (.int .i64 0)]), .undef, .undef, .undef, .undef, .undef, .undef, .undef, .undef, .undef, .undef, .undef] H3 (by kernel_rfl) ?_
  refine then_norm ?_
  refine w_seq ?_
  refine w_block ?_
  refine w_seq ?_
  refine w_run [0, 0, 0, 0, 0, 0, 0] ?_
  refine t_done [(.int .i64 window0), events1, (.agg [.empty, .empty, .empty]), (.agg [(.int .i64 0), (.int .i64 0)]), (.bool ((decide (window0 < 1)) || (decide (window0 > 4)))), .undef, .undef, .undef, .undef, .undef, .undef, .undef, .undef, .undef, .undef] H3 (by kernel_rfl) ?_
  refine then_norm ?_
  refine w_cond (t := ((decide (window0 < 1)) || (decide (window0 > 4)))) rfl (fun hc => ?_) (fun hc => ?_)
  · replace h := h.1 ((is_or is_dec is_dec).t hc)
    refine w_seq ?_
    refine w_run [1, 1, 1, 1] ?_
    refine t_build true [.empty, .empty, .empty] [] [] [.empty, .empty, .empty] H3 (by kernel_rfl) (by kernel_rfl) ?_
    refine t_build true [(.int .i64 0), (.int .i64 0)] [(0, 1, .loc 0), (1, 1, .loc 1)] [(.int .i64 3), (.int .i64 (-2))] [(.int .i64 3), (.int .i64 (-2))] H3 (by kernel_rfl) (fill_c (vs := [(.int .i64 3)]) (size := 1) rfl (by kernel_rfl) (by kernel_rfl) (fill_c (vs := [(.int .i64 (-2))]) (size := 1) rfl (by kernel_rfl) (by kernel_rfl) (by kernel_rfl))) ?_
    refine t_upd true 3 0 [.empty, .empty, .empty] (.agg [.empty, .empty, .empty]) [.empty, .empty, .empty] [.empty, .empty, .empty] H3 (by kernel_rfl) rfl (all_c rfl (all_c rfl (all_c rfl all_n))) ⟨rfl, Nat.le_of_ble_eq_true (by kernel_rfl), rfl⟩ ?_
    refine t_upd true 2 0 [(.int .i64 0), (.int .i64 0)] (.agg [(.int .i64 3), (.int .i64 (-2))]) [(.int .i64 3), (.int .i64 (-2))] [(.int .i64 3), (.int .i64 (-2))] H3 (by kernel_rfl) rfl (all_c rfl (all_c rfl all_n)) ⟨rfl, Nat.le_of_ble_eq_true (by kernel_rfl), rfl⟩ ?_
    refine t_done [(.int .i64 window0), events1, (.agg [.empty, .empty, .empty]), (.agg [(.int .i64 3), (.int .i64 (-2))]), (.bool ((decide (window0 < 1)) || (decide (window0 > 4)))), .undef, .undef, .undef, .undef, .undef, .undef, .undef, .undef, .undef, .undef] H3 (by kernel_rfl) ?_
    refine then_norm ?_
    refine w_ret ?_
    refine block_ret ?_
    refine then_ret ?_
    exact body_ret (vs := [(.agg [.empty, .empty, .empty]), (.agg [(.int .i64 3), (.int .i64 (-2))])]) _ (by kernel_rfl) rfl h
  · replace h := h.2 ((is_or is_dec is_dec).f hc)
    refine w_seq ?_
    refine w_run [0, 1, 0, 0] ?_
    obtain ⟨len4, hl, h⟩ := h
    refine t_len true events1 len4 H3 (by kernel_rfl) hl ?_
    refine t_done [(.int .i64 window0), events1, (.agg [.empty, .empty, .empty]), (.agg [(.int .i64 0), (.int .i64 0)]), (.bool ((decide (window0 < 1)) || (decide (window0 > 4)))), (.bool (decide ((len4 : Int) > 40))), .undef, .undef, .undef, .undef, .undef, .undef, .undef, .undef, .undef] H3 (by kernel_rfl) ?_
    refine then_norm ?_
    refine w_cond (t := (decide ((len4 : Int) > 40))) rfl (fun hc => ?_) (fun hc => ?_)
    · replace h := h.1 (is_dec.t hc)
      refine w_seq ?_
      refine w_run [1, 1, 1, 1] ?_
      refine t_build true [.empty, .empty, .empty] [] [] [.empty, .empty, .empty] H3 (by kernel_rfl) (by kernel_rfl) ?_
      refine t_build true [(.int .i64 0), (.int .i64 0)] [(0, 1, .loc 0), (1, 1, .loc 1)] [(.int .i64 2), (.int .i64 (-1))] [(.int .i64 2), (.int .i64 (-1))] H3 (by kernel_rfl) (fill_c (vs := [(.int .i64 2)]) (size := 1) rfl (by kernel_rfl) (by kernel_rfl) (fill_c (vs := [(.int .i64 (-1))]) (size := 1) rfl (by kernel_rfl) (by kernel_rfl) (by kernel_rfl))) ?_
      refine t_upd true 3 0 [.empty, .empty, .empty] (.agg [.empty, .empty, .empty]) [.empty, .empty, .empty] [.empty, .empty, .empty] H3 (by kernel_rfl) rfl (all_c rfl (all_c rfl (all_c rfl all_n))) ⟨rfl, Nat.le_of_ble_eq_true (by kernel_rfl), rfl⟩ ?_
      refine t_upd true 2 0 [(.int .i64 0), (.int .i64 0)] (.agg [(.int .i64 2), (.int .i64 (-1))]) [(.int .i64 2), (.int .i64 (-1))] [(.int .i64 2), (.int .i64 (-1))] H3 (by kernel_rfl) rfl (all_c rfl (all_c rfl all_n)) ⟨rfl, Nat.le_of_ble_eq_true (by kernel_rfl), rfl⟩ ?_
      refine t_done [(.int .i64 window0), events1, (.agg [.empty, .empty, .empty]), (.agg [(.int .i64 2), (.int .i64 (-1))]), (.bool ((decide (window0 < 1)) || (decide (window0 > 4)))), (.bool (decide ((len4 : Int) > 40))), .undef, .undef, .undef, .undef, .undef, .undef, .undef, .undef, .undef] H3 (by kernel_rfl) ?_
      refine then_norm ?_
      refine w_ret ?_
      refine block_ret ?_
      refine then_ret ?_
      exact body_ret (vs := [(.agg [.empty, .empty, .empty]), (.agg [(.int .i64 2), (.int .i64 (-1))])]) _ (by kernel_rfl) rfl h
    · replace h := h.2 (is_dec.f hc)
      refine w_skip ?_
      refine block_norm ?_
      refine then_norm ?_
      refine w_seq ?_
      refine w_run [0, 1, 1, 1] ?_
      refine t_build true [.empty, .empty, .empty, (.int .i64 0)] [(3, 1, .loc 0)] [(.int .i64 window0)] [.empty, .empty, .empty, (.int .i64 window0)] H3 (by kernel_rfl) (fill_c (vs := [(.int .i64 window0)]) (size := 1) rfl (by kernel_rfl) (by kernel_rfl) (by kernel_rfl)) ?_
      obtain ⟨b5, H6, hb⟩ : ∃ b H', NewB H3 1 [.empty, .empty, .empty, (.int .i64 0)] b H' := ⟨_, _, rfl, rfl⟩
      replace h := h b5 H6 hb
      refine t_alloc true 1 [.empty, .empty, .empty, (.int .i64 0)] b5 H6 H3 (by kernel_rfl) hb ?_
      obtain ⟨H7, hp, h⟩ := h
      refine t_store true 4 b5 0 (.agg [.empty, .empty, .empty, (.int .i64 window0)]) H7 H6 (by kernel_rfl) hp ?_
      refine t_done [(.int .i64 window0), events1, (.agg [.empty, .empty, .empty]), (.agg [(.int .i64 0), (.int .i64 0)]), (.bool ((decide (window0 < 1)) || (decide (window0 > 4)))), (.bool (decide ((len4 : Int) > 40))), .undef, .undef, .undef, .undef, .undef, (.ptr b5 0), .undef, .undef, .undef] H7 (by kernel_rfl) ?_
      refine then_norm ?_
      refine w_seq ?_
      refine w_seq ?_
      refine w_run [0, 1, 0] ?_
      obtain ⟨len8, hl, h⟩ := h
      refine t_len true events1 len8 H7 (by kernel_rfl) hl ?_
      refine t_done [(.int .i64 window0), events1, (.agg [.empty, .empty, .empty]), (.agg [(.int .i64 0), (.int .i64 0)]), (.bool ((decide (window0 < 1)) || (decide (window0 > 4)))), (.bool (decide ((len4 : Int) > 40))), (.int .i64 0), (.int .i64 (len8 : Int)), .undef, events1, .undef, (.ptr b5 0), .undef, .undef, .undef] H7 (by kernel_rfl) ?_
      refine then_norm ?_
      refine w_block ?_
      obtain ⟨J9, k10, h0, h⟩ := h
      refine w_loop (I := fun mI EI HI => ∃ (v12 : AV) (v13 : AV) (v14 : AV) (v15 : Int) (v16 : Int) (v17 : Int) (d18 : AV) (d19 : AV) (d20 : AV) (d21 : AV) (d22 : AV), EI = [(.int .i64 window0), events1, (.agg [v12, v13, v14]), (.agg [(.int .i64 v15), (.int .i64 v16)]), (.bool ((decide (window0 < 1)) || (decide (window0 > 4)))), (.bool (decide ((len4 : Int) > 40))), (.int .i64 v17), (.int .i64 (len8 : Int)), d18, events1, d19, (.ptr b5 0), d20, d21, d22] ∧ J9 mI v12 v13 v14 v15 v16 v17 HI) ?_ k10 ⟨_, _, _, _, _, _, _, _, _, _, _, rfl, h0⟩
      clear h0
      rintro m11 EI H23 ⟨v12, v13, v14, v15, v16, v17, d18, d19, d20, d21, d22, rfl, hJ⟩
      replace h := h m11 v12 v13 v14 v15 v16 v17 H23 hJ
      clear hJ
      refine w_seq ?_
      refine w_run [0] ?_
      refine t_done [(.int .i64 window0), events1, (.agg [v12, v13, v14]), (.agg [(.int .i64 v15), (.int .i64 v16)]), (.bool ((decide (window0 < 1)) || (decide (window0 > 4)))), (.bool (decide ((len4 : Int) > 40))), (.int .i64 v17), (.int .i64 (len8 : Int)), (.bool (decide (v17 < (len8 : Int)))), events1, d19, (.ptr b5 0), d20, d21, d22] H23 (by kernel_rfl) ?_
      refine then_norm ?_
      refine w_seq ?_
      refine w_cond (t := (decide (v17 < (len8 : Int)))) rfl (fun hc => ?_) (fun hc => ?_)
      · replace h := h.1 (is_dec.t hc)
        refine w_skip ?_
        refine then_norm ?_
        refine w_seq ?_
        refine w_block ?_
        refine w_seq ?_
        refine w_run [0, 1, 1, 1, 0, 1] ?_
        obtain ⟨e24, e25, e26, hg27, h⟩ := h
        refine t_idxG true 3 events1 .i64 v17 H23 (by kernel_rfl) hg27 ?_
        refine t_loadG true (some 3) 3 events1 v17 0 (.agg [(.int .i64 e24), (.int .i64 e25), (.int .i64 e26)]) H23 (by kernel_rfl) hg27 ?_
        obtain ⟨H28, hb⟩ : ∃ H', Dead1 H23 1 H' := ⟨_, ⟨rfl⟩⟩
        replace h := h H28 hb
        refine t_tomb true 1 (.agg [(.int .i64 0), (.int .i64 0), (.int .i64 0)]) [(.int .i64 0), (.int .i64 0), (.int .i64 0)] H28 H23 (by kernel_rfl) rfl hb ?_
        refine t_upd true 3 0 [(.int .i64 0), (.int .i64 0), (.int .i64 0)] (.agg [(.int .i64 e24), (.int .i64 e25), (.int .i64 e26)]) [(.int .i64 e24), (.int .i64 e25), (.int .i64 e26)] [(.int .i64 e24), (.int .i64 e25), (.int .i64 e26)] H28 (by kernel_rfl) rfl (all_c rfl (all_c rfl (all_c rfl all_n))) ⟨rfl, Nat.le_of_ble_eq_true (by kernel_rfl), rfl⟩ ?_
        refine t_done [(.int .i64 window0), events1, (.agg [v12, v13, v14]), (.agg [(.int .i64 v15), (.int .i64 v16)]), (.bool ((decide (window0 < 1)) || (decide (window0 > 4)))), (.bool (decide ((len4 : Int) > 40))), (.int .i64 v17), (.int .i64 (len8 : Int)), (.bool (decide (v17 < (len8 : Int)))), events1, (.agg [(.int .i64 e24), (.int .i64 e25), (.int .i64 e26)]), (.ptr b5 0), d20, d21, (.int .i64 v17)] H28 (by kernel_rfl) ?_
        refine then_norm ?_
        refine w_seq ?_
        refine w_seq ?_
        refine w_run [0, 1, 0] ?_
        refine t_call true nmergequeue_queue_step [(.ptr b5 0), (.agg [(.int .i64 e24), (.int .i64 e25), (.int .i64 e26)])] H28 (by kernel_rfl) h ?_
        clear h
        rintro _ H30 ⟨r29, rfl, h⟩
        refine t_done [(.int .i64 window0), events1, (.agg [v12, v13, v14]), (.agg [(.int .i64 v15), (.int .i64 v16)]), (.bool ((decide (window0 < 1)) || (decide (window0 > 4)))), (.bool (decide ((len4 : Int) > 40))), (.int .i64 v17), (.int .i64 (len8 : Int)), (.bool (decide (v17 < (len8 : Int)))), events1, (.agg [(.int .i64 e24), (.int .i64 e25), (.int .i64 e26)]), (.ptr b5 0), (.int .i64 r29), d21, (.int .i64 v17)] H30 (by kernel_rfl) ?_
        refine then_norm ?_
        refine w_seq ?_
        refine w_run [0, 0] ?_
        refine t_done [(.int .i64 window0), events1, (.agg [v12, v13, v14]), (.agg [(.int .i64 v15), (.int .i64 v16)]), (.bool ((decide (window0 < 1)) || (decide (window0 > 4)))), (.bool (decide ((len4 : Int) > 40))), (.int .i64 v17), (.int .i64 (len8 : Int)), (.bool (decide (v17 < (len8 : Int)))), events1, (.agg [(.int .i64 e24), (.int .i64 e25), (.int .i64 e26)]), (.ptr b5 0), (.int .i64 r29), (.bool ((r29) != 0)), (.int .i64 v17)] H30 (by kernel_rfl) ?_
        refine then_norm ?_
        refine w_cond (t := ((r29) != 0)) rfl (fun hc => ?_) (fun hc => ?_)
        · replace h := h.1 (is_ne.t hc)
          refine w_seq ?_
          refine w_run [1, 0, 0, 1, 1, 1] ?_
          refine t_build true [.empty, .empty, .empty] [] [] [.empty, .empty, .empty] H30 (by kernel_rfl) (by kernel_rfl) ?_
          refine t_build true [(.int .i64 0), (.int .i64 0)] [(0, 1, .loc 0), (1, 1, .loc 1)] [(.int .i64 r29), (.int .i64 v17)] [(.int .i64 r29), (.int .i64 v17)] H30 (by kernel_rfl) (fill_c (vs := [(.int .i64 r29)]) (size := 1) rfl (by kernel_rfl) (by kernel_rfl) (fill_c (vs := [(.int .i64 v17)]) (size := 1) rfl (by kernel_rfl) (by kernel_rfl) (by kernel_rfl))) ?_
          refine t_upd true 3 0 [v12, v13, v14] (.agg [.empty, .empty, .empty]) [.empty, .empty, .empty] [.empty, .empty, .empty] H30 (by kernel_rfl) rfl (all_c rfl (all_c rfl (all_c rfl all_n))) ⟨rfl, Nat.le_of_ble_eq_true (by kernel_rfl), rfl⟩ ?_
          refine t_upd true 2 0 [(.int .i64 v15), (.int .i64 v16)] (.agg [(.int .i64 r29), (.int .i64 v17)]) [(.int .i64 r29), (.int .i64 v17)] [(.int .i64 r29), (.int .i64 v17)] H30 (by kernel_rfl) rfl (all_c rfl (all_c rfl all_n)) ⟨rfl, Nat.le_of_ble_eq_true (by kernel_rfl), rfl⟩ ?_
          refine t_done [(.int .i64 window0), events1, (.agg [.empty, .empty, .empty]), (.agg [(.int .i64 r29), (.int .i64 v17)]), (.bool ((decide (window0 < 1)) || (decide (window0 > 4)))), (.bool (decide ((len4 : Int) > 40))), (.int .i64 v17), (.int .i64 (len8 : Int)), (.bool (decide (v17 < (len8 : Int)))), events1, (.agg [(.int .i64 e24), (.int .i64 e25), (.int .i64 e26)]), (.ptr b5 0), (.int .i64 r29), (.bool ((r29) != 0)), (.int .i64 v17)] H30 (by kernel_rfl) ?_
          refine then_norm ?_
          refine w_ret ?_
          refine then_ret ?_
          refine block_ret ?_
          refine then_ret ?_
          refine loop_ret ?_
          refine block_ret ?_
          refine then_ret ?_
          exact body_ret (vs := [(.agg [.empty, .empty, .empty]), (.agg [(.int .i64 r29), (.int .i64 v17)])]) _ (by kernel_rfl) rfl h
        · replace h := h.2 (is_ne.f hc)
          refine w_skip ?_
          refine then_norm ?_
          refine w_run [1] ?_
          refine t_call true nmergequeue_queue_settle [(.ptr b5 0)] H30 (by kernel_rfl) h ?_
          clear h
          rintro _ H32 ⟨rfl, h⟩
          refine t_done [(.int .i64 window0), events1, (.agg [v12, v13, v14]), (.agg [(.int .i64 v15), (.int .i64 v16)]), (.bool ((decide (window0 < 1)) || (decide (window0 > 4)))), (.bool (decide ((len4 : Int) > 40))), (.int .i64 v17), (.int .i64 (len8 : Int)), (.bool (decide (v17 < (len8 : Int)))), events1, (.agg [(.int .i64 e24), (.int .i64 e25), (.int .i64 e26)]), (.ptr b5 0), (.int .i64 r29), (.bool ((r29) != 0)), (.int .i64 v17)] H32 (by kernel_rfl) ?_
          refine block_norm ?_
          refine then_norm ?_
          refine w_run [0, 0] ?_
          refine t_done [(.int .i64 window0), events1, (.agg [v12, v13, v14]), (.agg [(.int .i64 v15), (.int .i64 v16)]), (.bool ((decide (window0 < 1)) || (decide (window0 > 4)))), (.bool (decide ((len4 : Int) > 40))), (.int .i64 (IntKind.wrap .i64 (v17 + 1))), (.int .i64 (len8 : Int)), (.bool (decide (v17 < (len8 : Int)))), events1, (.agg [(.int .i64 e24), (.int .i64 e25), (.int .i64 e26)]), (.ptr b5 0), (.int .i64 r29), (.bool ((r29) != 0)), (.int .i64 v17)] H32 (by kernel_rfl) ?_
          obtain ⟨m', hm, h⟩ := h
          refine loop_norm ⟨m', hm, _, _, _, _, _, _, _, _, _, _, _, rfl, h⟩
      · replace h := h.2 (is_dec.f hc)
        refine w_exit ?_
        refine then_exit ?_
        refine loop_exit ?_
        refine block_exit ?_
        refine then_norm ?_
        refine w_seq ?_
        refine w_run [1, 1, 1, 1, 1] ?_
        refine t_op true (.fieldAddr 0 (.loc 0)) [.ptr b5 0] H23 (.ptr b5 0) H23 (by kernel_rfl) rfl ?_
        obtain ⟨e35, e36, e37, hl, h⟩ := h
        refine t_load true (some 3) b5 0 (.agg [e35, e36, e37]) H23 (by kernel_rfl) hl ?_
        refine t_build true [(.int .i64 0), (.int .i64 0)] [] [] [(.int .i64 0), (.int .i64 0)] H23 (by kernel_rfl) (by kernel_rfl) ?_
        obtain ⟨hs38, h⟩ := h
        obtain ⟨hs39, h⟩ := h
        obtain ⟨hs40, h⟩ := h
        refine t_upd true 3 0 [v12, v13, v14] (.agg [e35, e36, e37]) [e35, e36, e37] [e35, e36, e37] H23 (by kernel_rfl) rfl (all_c hs38.2 (all_c hs39.2 (all_c hs40.2 all_n))) ⟨rfl, Nat.le_of_ble_eq_true (by kernel_rfl), rfl⟩ ?_
        refine t_upd true 2 0 [(.int .i64 v15), (.int .i64 v16)] (.agg [(.int .i64 0), (.int .i64 0)]) [(.int .i64 0), (.int .i64 0)] [(.int .i64 0), (.int .i64 0)] H23 (by kernel_rfl) rfl (all_c rfl (all_c rfl all_n)) ⟨rfl, Nat.le_of_ble_eq_true (by kernel_rfl), rfl⟩ ?_
        refine t_done [(.int .i64 window0), events1, (.agg [e35, e36, e37]), (.agg [(.int .i64 0), (.int .i64 0)]), (.bool ((decide (window0 < 1)) || (decide (window0 > 4)))), (.bool (decide ((len4 : Int) > 40))), (.int .i64 v17), (.int .i64 (len8 : Int)), (.bool (decide (v17 < (len8 : Int)))), events1, d19, (.ptr b5 0), d20, d21, d22] H23 (by kernel_rfl) ?_
        refine then_norm ?_
        refine w_ret ?_
        exact body_ret (vs := [(.agg [e35, e36, e37]), (.agg [(.int .i64 0), (.int .i64 0)])]) _ (by kernel_rfl) rfl h

def rf_mergequeue_Outcome (nmergequeue_Run nslices_Index__int_int nmergequeue_Outcomex1 nslices_IndexFunc__api_QueueEntry_api_QueueEntry : Nat) : RFunc := ⟨3, 16, [.var 3, .var 4, .part 5 (some 2)],
 ((.seq (.ops [⟨.box 1 (.var 2), none, (some 9), true⟩, ⟨.move (.k (.int .i64 0)), none, (some 3), true⟩, ⟨.move (.k (.int .i64 0)), none, (some 4), true⟩, ⟨.tomb 1 (.k (.agg [.int .i64 0, .int .i64 0])), none, (some 5), true⟩])
 ((.seq (.ops [o1 (.move (.var 0)), o1 (.move (.var 1)), o1 (.callS nmergequeue_Run [(.loc 0), (.loc 1)]), o1 (.move (.loc 2)), o1 (.extract (.loc 3) 0), o1 (.extract (.loc 3) 1), ⟨.tomb 1 (.k (.agg [.empty, .empty, .empty])), none, (some 8), true⟩, ⟨.tomb 1 (.k (.agg [.int .i64 0, .int .i64 0])), none, (some 6), true⟩, ⟨.upd 3 0 (.loc 6) (.loc 4), none, (some 8), true⟩, ⟨.upd 2 0 (.loc 7) (.loc 5), none, (some 6), true⟩])
 ((.seq ((.seq (.ops [o1 (.field 0 (some 2) (.var 6)), o1 (.build [.int .i64 0, .int .i64 0] []), ⟨.bin .neq (.agg [.int, .int]) (.loc 0) (.loc 1), none, (some 7), true⟩])
 (.cond (.var 7) ((.seq (.ops [o1 (.field 0 (some 2) (.var 6)), ⟨.move (.k (.int .i64 0)), none, (some 3), false⟩, ⟨.move (.k (.int .i64 0)), none, (some 4), false⟩, ⟨.upd 2 0 (.var 5) (.loc 0), none, (some 5), true⟩])
 (.ret))) (.skip))))
 ((.seq ((.seq (.ops [o1 (.field 0 none (.var 8)), o1 (.field 1 none (.var 8)), o1 (.load none (.var 9)), o1 (.callS nslices_Index__int_int [(.loc 1), (.loc 2)]), ⟨.move (.loc 3), none, (some 10), true⟩])
 ((.seq (.ops [o1 (.move (.var 10)), ⟨.bin .geq .no (.loc 0) (.k (.int .i64 0)), none, (some 11), true⟩])
 (.cond (.var 11) ((.seq (.ops [⟨.move (.var 10), none, none, false⟩, o1 (.field 0 (some 2) (.var 6)), ⟨.move (.k (.int .i64 1)), none, (some 3), false⟩, ⟨.move (.loc 0), none, (some 4), false⟩, ⟨.upd 2 0 (.var 5) (.loc 1), none, (some 5), true⟩])
 (.ret))) (.skip))))))
 ((.seq ((.seq (.ops [o1 (.field 0 none (.var 8)), o1 (.field 2 none (.var 8)), o1 (.load none (.var 9)), o1 (.callS nslices_Index__int_int [(.loc 1), (.loc 2)]), ⟨.move (.loc 3), none, (some 12), true⟩])
 ((.seq (.ops [o1 (.move (.var 12)), ⟨.bin .geq .no (.loc 0) (.k (.int .i64 0)), none, (some 13), true⟩])
 (.cond (.var 13) ((.seq (.ops [⟨.move (.var 12), none, none, false⟩, o1 (.field 0 (some 2) (.var 6)), ⟨.move (.k (.int .i64 2)), none, (some 3), false⟩, ⟨.move (.loc 0), none, (some 4), false⟩, ⟨.upd 2 0 (.var 5) (.loc 1), none, (some 5), true⟩])
 (.ret))) (.skip))))))
 ((.seq ((.seq (.ops [o1 (.field 0 none (.var 8)), o1 (.field 0 none (.var 8)), o1 (.makeFunc nmergequeue_Outcomex1 [(.var 9)]), o1 (.callS nslices_IndexFunc__api_QueueEntry_api_QueueEntry [(.loc 1), (.loc 2)]), ⟨.move (.loc 3), none, (some 14), true⟩])
 ((.seq (.ops [o1 (.move (.var 14)), ⟨.bin .geq .no (.loc 0) (.k (.int .i64 0)), none, (some 15), true⟩])
 (.cond (.var 15) ((.seq (.ops [⟨.move (.var 14), none, none, false⟩, o1 (.field 0 (some 2) (.var 6)), ⟨.move (.k (.int .i64 3)), none, (some 3), false⟩, ⟨.move (.loc 0), none, (some 4), false⟩, ⟨.upd 2 0 (.var 5) (.loc 1), none, (some 5), true⟩])
 (.ret))) (.skip))))))
 ((.seq (.ops [o1 (.build [.int .i64 0, .int .i64 0] [(0, 1, (.k (.int .i64 6))), (1, 1, (.k (.int .i64 (-3))))]), ⟨.move (.k (.int .i64 0)), none, (some 3), true⟩, ⟨.move (.k (.int .i64 0)), none, (some 4), true⟩, ⟨.upd 2 0 (.var 5) (.loc 0), none, (some 5), true⟩])
 (.ret))))))))))))))), none⟩
theorem v_mergequeue_Outcome {F : Nat → Option RFunc} {me nmergequeue_Run nslices_Index__int_int nmergequeue_Outcomex1 nslices_IndexFunc__api_QueueEntry_api_QueueEntry : Nat} (hF : F me = some (rf_mergequeue_Outcome nmergequeue_Run nslices_Index__int_int nmergequeue_Outcomex1 nslices_IndexFunc__api_QueueEntry_api_QueueEntry)) {fl : Nat} {H : Heap} {Q : AV → Heap → Prop} (window0 : Int) (events1 : AV) (change2 : Int)
  (h : ∀ (b3 : Nat) (H4 : Heap), NewB H 1 [(.int .i64 change2)] b3 H4 → ∀ (H5 : Heap), Dead1 H4 1 H5 → Ret F fl nmergequeue_Run [(.int .i64 window0), events1] H5 (fun v12 H11 => ∃ (r6 : AV) (r7 : AV) (r8 : AV) (r9 : Int) (r10 : Int), v12 = (.tuple [(.agg [r6, r7, r8]), (.agg [(.int .i64 r9), (.int .i64 r10)])]) ∧ ∀ (H13 : Heap), Dead1 H11 1 H13 → ∀ (H14 : Heap), Dead1 H13 1 H14 → Scal r6 ∧ Scal r7 ∧ Scal r8 ∧ ((¬(((r9 = 0) ∧ (((r10 = 0) ∧ (True)))))) → Q (.tuple [(.int .i64 0), (.int .i64 0), (.agg [(.int .i64 r9), (.int .i64 r10)])]) H14) ∧ (¬(¬(((r9 = 0) ∧ (((r10 = 0) ∧ (True)))))) → ∃ (e18 : Int), rload H14 none b3 0 = some (.int .i64 e18) ∧ Ret F fl nslices_Index__int_int [r7, (.int .i64 e18)] H14 (fun v21 H20 => ∃ (r19 : Int), v21 = (.int .i64 r19) ∧ ((r19 ≥ 0) → Q (.tuple [(.int .i64 1), (.int .i64 r19), (.agg [(.int .i64 r9), (.int .i64 r10)])]) H20) ∧ (¬(r19 ≥ 0) → ∃ (e22 : Int), rload H20 none b3 0 = some (.int .i64 e22) ∧ Ret F fl nslices_Index__int_int [r8, (.int .i64 e22)] H20 (fun v25 H24 => ∃ (r23 : Int), v25 = (.int .i64 r23) ∧ ((r23 ≥ 0) → Q (.tuple [(.int .i64 2), (.int .i64 r23), (.agg [(.int .i64 r9), (.int .i64 r10)])]) H24) ∧ (¬(r23 ≥ 0) → Ret F fl nslices_IndexFunc__api_QueueEntry_api_QueueEntry [r6, (.func nmergequeue_Outcomex1 [(.ptr b3 0)])] H24 (fun v28 H27 => ∃ (r26 : Int), v28 = (.int .i64 r26) ∧ ((r26 ≥ 0) → Q (.tuple [(.int .i64 3), (.int .i64 r26), (.agg [(.int .i64 r9), (.int .i64 r10)])]) H27) ∧ (¬(r26 ≥ 0) → Q (.tuple [(.int .i64 0), (.int .i64 0), (.agg [(.int .i64 6), (.int .i64 (-3))])]) H27))))))))) : Ret F fl me [(.int .i64 window0), events1, (.int .i64 change2)] H Q := by
  refine ret_intro hF rfl ?_
  refine w_seq ?_
  refine w_run [1, 0, 0, 1] ?_
  obtain ⟨b3, H4, hb⟩ : ∃ b H', NewB H 1 [(.int .i64 change2)] b H' := ⟨_, _, rfl, rfl⟩
  replace h := h b3 H4 hb
  refine t_box true 1 (.int .i64 change2) [(.int .i64 change2)] b3 H4 H (by kernel_rfl) rfl hb ?_
  obtain ⟨H5, hb⟩ : ∃ H', Dead1 H4 1 H' := ⟨_, ⟨rfl⟩⟩
  replace h := h H5 hb
  refine t_tomb true 1 (.agg [(.int .i64 0), (.int .i64 0)]) [(.int .i64 0), (.int .i64 0)] H5 H4 (by kernel_rfl) rfl hb ?_
  refine t_done [(.int .i64 window0), events1, (.int .i64 change2), (.int .i64 0), (.int .i64 0), (.agg [(.int .i64 0), (.int .i64 0)]), .undef, .undef, .undef, (.ptr b3 0), .undef, .undef, .undef, .undef, .undef, .undef] H5 (by kernel_rfl) ?_
  refine then_norm ?_
  refine w_seq ?_
  refine w_run [0, 0, 1, 0, 0, 0, 1, 1, 1, 1] ?_
  refine t_call true nmergequeue_Run [(.int .i64 window0), events1] H5 (by kernel_rfl) h ?_
  clear h
  rintro _ H11 ⟨r6, r7, r8, r9, r10, rfl, h⟩
  obtain ⟨H13, hb⟩ : ∃ H', Dead1 H11 1 H' := ⟨_, ⟨rfl⟩⟩
  replace h := h H13 hb
  refine t_tomb true 1 (.agg [.empty, .empty, .empty]) [.empty, .empty, .empty] H13 H11 (by kernel_rfl) rfl hb ?_
  obtain ⟨H14, hb⟩ : ∃ H', Dead1 H13 1 H' := ⟨_, ⟨rfl⟩⟩
  replace h := h H14 hb
  refine t_tomb true 1 (.agg [(.int .i64 0), (.int .i64 0)]) [(.int .i64 0), (.int .i64 0)] H14 H13 (by kernel_rfl) rfl hb ?_
  obtain ⟨hs15, h⟩ := h
  obtain ⟨hs16, h⟩ := h
  obtain ⟨hs17, h⟩ := h
  refine t_upd true 3 0 [.empty, .empty, .empty] (.agg [r6, r7, r8]) [r6, r7, r8] [r6, r7, r8] H14 (by kernel_rfl) rfl (all_c hs15.2 (all_c hs16.2 (all_c hs17.2 all_n))) ⟨rfl, Nat.le_of_ble_eq_true (by kernel_rfl), rfl⟩ ?_
  refine t_upd true 2 0 [(.int .i64 0), (.int .i64 0)] (.agg [(.int .i64 r9), (.int .i64 r10)]) [(.int .i64 r9), (.int .i64 r10)] [(.int .i64 r9), (.int .i64 r10)] H14 (by kernel_rfl) rfl (all_c rfl (all_c rfl all_n)) ⟨rfl, Nat.le_of_ble_eq_true (by kernel_rfl), rfl⟩ ?_
  refine t_done [(.int .i64 window0), events1, (.int .i64 change2), (.int .i64 0), (.int .i64 0), (.agg [(.int .i64 0), (.int .i64 0)]), (.agg [(.int .i64 r9), (.int .i64 r10)]), .undef, (.agg [r6, r7, r8]), (.ptr b3 0), .undef, .undef, .undef, .undef, .undef, .undef] H14 (by kernel_rfl) ?_
  refine then_norm ?_
  refine w_seq ?_
  refine w_seq ?_
  refine w_run [0, 1, 0] ?_
  refine t_build true [(.int .i64 0), (.int .i64 0)] [] [] [(.int .i64 0), (.int .i64 0)] H14 (by kernel_rfl) (by kernel_rfl) ?_
  refine t_done [(.int .i64 window0), events1, (.int .i64 change2), (.int .i64 0), (.int .i64 0), (.agg [(.int .i64 0), (.int .i64 0)]), (.agg [(.int .i64 r9), (.int .i64 r10)]), (.bool (!(((r9) == 0) && (((r10) == 0) && true)))), (.agg [r6, r7, r8]), (.ptr b3 0), .undef, .undef, .undef, .undef, .undef, .undef] H14 (by kernel_rfl) ?_
  refine then_norm ?_
  refine w_cond (t := (!(((r9) == 0) && (((r10) == 0) && true)))) rfl (fun hc => ?_) (fun hc => ?_)
  · replace h := h.1 ((is_not (is_and is_eq (is_and is_eq is_true))).t hc)
    refine w_seq ?_
    refine w_run [0, 0, 0, 1] ?_
    refine t_upd true 2 0 [(.int .i64 0), (.int .i64 0)] (.agg [(.int .i64 r9), (.int .i64 r10)]) [(.int .i64 r9), (.int .i64 r10)] [(.int .i64 r9), (.int .i64 r10)] H14 (by kernel_rfl) rfl (all_c rfl (all_c rfl all_n)) ⟨rfl, Nat.le_of_ble_eq_true (by kernel_rfl), rfl⟩ ?_
    refine t_done [(.int .i64 window0), events1, (.int .i64 change2), (.int .i64 0), (.int .i64 0), (.agg [(.int .i64 r9), (.int .i64 r10)]), (.agg [(.int .i64 r9), (.int .i64 r10)]), (.bool (!(((r9) == 0) && (((r10) == 0) && true)))), (.agg [r6, r7, r8]), (.ptr b3 0), .undef, .undef, .undef, .undef, .undef, .undef] H14 (by kernel_rfl) ?_
    refine then_norm ?_
    refine w_ret ?_
    refine then_ret ?_
    exact body_ret (vs := [(.int .i64 0), (.int .i64 0), (.agg [(.int .i64 r9), (.int .i64 r10)])]) _ (by kernel_rfl) rfl h
  · replace h := h.2 ((is_not (is_and is_eq (is_and is_eq is_true))).f hc)
    refine w_skip ?_
    refine then_norm ?_
    refine w_seq ?_
    refine w_seq ?_
    refine w_run [0, 0, 1, 1, 0] ?_
    obtain ⟨e18, hl, h⟩ := h
    refine t_load true none b3 0 (.int .i64 e18) H14 (by kernel_rfl) hl ?_
    refine t_call true nslices_Index__int_int [r7, (.int .i64 e18)] H14 (by kernel_rfl) h ?_
    clear h
    rintro _ H20 ⟨r19, rfl, h⟩
    refine t_done [(.int .i64 window0), events1, (.int .i64 change2), (.int .i64 0), (.int .i64 0), (.agg [(.int .i64 0), (.int .i64 0)]), (.agg [(.int .i64 r9), (.int .i64 r10)]), (.bool (!(((r9) == 0) && (((r10) == 0) && true)))), (.agg [r6, r7, r8]), (.ptr b3 0), (.int .i64 r19), .undef, .undef, .undef, .undef, .undef] H20 (by kernel_rfl) ?_
    refine then_norm ?_
    refine w_seq ?_
    refine w_run [0, 0] ?_
    refine t_done [(.int .i64 window0), events1, (.int .i64 change2), (.int .i64 0), (.int .i64 0), (.agg [(.int .i64 0), (.int .i64 0)]), (.agg [(.int .i64 r9), (.int .i64 r10)]), (.bool (!(((r9) == 0) && (((r10) == 0) && true)))), (.agg [r6, r7, r8]), (.ptr b3 0), (.int .i64 r19), (.bool (decide (r19 ≥ 0))), .undef, .undef, .undef, .undef] H20 (by kernel_rfl) ?_
    refine then_norm ?_
    refine w_cond (t := (decide (r19 ≥ 0))) rfl (fun hc => ?_) (fun hc => ?_)
    · replace h := h.1 (is_dec.t hc)
      refine w_seq ?_
      refine w_run [0, 0, 0, 0, 1] ?_
      refine t_upd true 2 0 [(.int .i64 0), (.int .i64 0)] (.agg [(.int .i64 r9), (.int .i64 r10)]) [(.int .i64 r9), (.int .i64 r10)] [(.int .i64 r9), (.int .i64 r10)] H20 (by kernel_rfl) rfl (all_c rfl (all_c rfl all_n)) ⟨rfl, Nat.le_of_ble_eq_true (by kernel_rfl), rfl⟩ ?_
      refine t_done [(.int .i64 window0), events1, (.int .i64 change2), (.int .i64 1), (.int .i64 r19), (.agg [(.int .i64 r9), (.int .i64 r10)]), (.agg [(.int .i64 r9), (.int .i64 r10)]), (.bool (!(((r9) == 0) && (((r10) == 0) && true)))), (.agg [r6, r7, r8]), (.ptr b3 0), (.int .i64 r19), (.bool (decide (r19 ≥ 0))), .undef, .undef, .undef, .undef] H20 (by kernel_rfl) ?_
      refine then_norm ?_
      refine w_ret ?_
      refine then_ret ?_
      exact body_ret (vs := [(.int .i64 1), (.int .i64 r19), (.agg [(.int .i64 r9), (.int .i64 r10)])]) _ (by kernel_rfl) rfl h
    · replace h := h.2 (is_dec.f hc)
      refine w_skip ?_
      refine then_norm ?_
      refine w_seq ?_
      refine w_seq ?_
      refine w_run [0, 0, 1, 1, 0] ?_
      obtain ⟨e22, hl, h⟩ := h
      refine t_load true none b3 0 (.int .i64 e22) H20 (by kernel_rfl) hl ?_
      refine t_call true nslices_Index__int_int [r8, (.int .i64 e22)] H20 (by kernel_rfl) h ?_
      clear h
      rintro _ H24 ⟨r23, rfl, h⟩
      refine t_done [(.int .i64 window0), events1, (.int .i64 change2), (.int .i64 0), (.int .i64 0), (.agg [(.int .i64 0), (.int .i64 0)]), (.agg [(.int .i64 r9), (.int .i64 r10)]), (.bool (!(((r9) == 0) && (((r10) == 0) && true)))), (.agg [r6, r7, r8]), (.ptr b3 0), (.int .i64 r19), (.bool (decide (r19 ≥ 0))), (.int .i64 r23), .undef, .undef, .undef] H24 (by kernel_rfl) ?_
      refine then_norm ?_
      refine w_seq ?_
      refine w_run [0, 0] ?_
      refine t_done [(.int .i64 window0), events1, (.int .i64 change2), (.int .i64 0), (.int .i64 0), (.agg [(.int .i64 0), (.int .i64 0)]), (.agg [(.int .i64 r9), (.int .i64 r10)]), (.bool (!(((r9) == 0) && (((r10) == 0) && true)))), (.agg [r6, r7, r8]), (.ptr b3 0), (.int .i64 r19), (.bool (decide (r19 ≥ 0))), (.int .i64 r23), (.bool (decide (r23 ≥ 0))), .undef, .undef] H24 (by kernel_rfl) ?_
      refine then_norm ?_
      refine w_cond (t := (decide (r23 ≥ 0))) rfl (fun hc => ?_) (fun hc => ?_)
      · replace h := h.1 (is_dec.t hc)
        refine w_seq ?_
        refine w_run [0, 0, 0, 0, 1] ?_
        refine t_upd true 2 0 [(.int .i64 0), (.int .i64 0)] (.agg [(.int .i64 r9), (.int .i64 r10)]) [(.int .i64 r9), (.int .i64 r10)] [(.int .i64 r9), (.int .i64 r10)] H24 (by kernel_rfl) rfl (all_c rfl (all_c rfl all_n)) ⟨rfl, Nat.le_of_ble_eq_true (by kernel_rfl), rfl⟩ ?_
        refine t_done [(.int .i64 window0), events1, (.int .i64 change2), (.int .i64 2), (.int .i64 r23), (.agg [(.int .i64 r9), (.int .i64 r10)]), (.agg [(.int .i64 r9), (.int .i64 r10)]), (.bool (!(((r9) == 0) && (((r10) == 0) && true)))), (.agg [r6, r7, r8]), (.ptr b3 0), (.int .i64 r19), (.bool (decide (r19 ≥ 0))), (.int .i64 r23), (.bool (decide (r23 ≥ 0))), .undef, .undef] H24 (by kernel_rfl) ?_
        refine then_norm ?_
        refine w_ret ?_
        refine then_ret ?_
        exact body_ret (vs := [(.int .i64 2), (.int .i64 r23), (.agg [(.int .i64 r9), (.int .i64 r10)])]) _ (by kernel_rfl) rfl h
      · replace h := h.2 (is_dec.f hc)
        refine w_skip ?_
        refine then_norm ?_
        refine w_seq ?_
        refine w_seq ?_
        refine w_run [0, 0, 0, 1, 0] ?_
        refine t_call true nslices_IndexFunc__api_QueueEntry_api_QueueEntry [r6, (.func nmergequeue_Outcomex1 [(.ptr b3 0)])] H24 (by kernel_rfl) h ?_
        clear h
        rintro _ H27 ⟨r26, rfl, h⟩
        refine t_done [(.int .i64 window0), events1, (.int .i64 change2), (.int .i64 0), (.int .i64 0), (.agg [(.int .i64 0), (.int .i64 0)]), (.agg [(.int .i64 r9), (.int .i64 r10)]), (.bool (!(((r9) == 0) && (((r10) == 0) && true)))), (.agg [r6, r7, r8]), (.ptr b3 0), (.int .i64 r19), (.bool (decide (r19 ≥ 0))), (.int .i64 r23), (.bool (decide (r23 ≥ 0))), (.int .i64 r26), .undef] H27 (by kernel_rfl) ?_
        refine then_norm ?_
        refine w_seq ?_
        refine w_run [0, 0] ?_
        refine t_done [(.int .i64 window0), events1, (.int .i64 change2), (.int .i64 0), (.int .i64 0), (.agg [(.int .i64 0), (.int .i64 0)]), (.agg [(.int .i64 r9), (.int .i64 r10)]), (.bool (!(((r9) == 0) && (((r10) == 0) && true)))), (.agg [r6, r7, r8]), (.ptr b3 0), (.int .i64 r19), (.bool (decide (r19 ≥ 0))), (.int .i64 r23), (.bool (decide (r23 ≥ 0))), (.int .i64 r26), (.bool (decide (r26 ≥ 0)))] H27 (by kernel_rfl) ?_
        refine then_norm ?_
        refine w_cond (t := (decide (r26 ≥ 0))) rfl (fun hc => ?_) (fun hc => ?_)
        · replace h := h.1 (is_dec.t hc)
          refine w_seq ?_
          refine w_run [0, 0, 0, 0, 1] ?_
          refine t_upd true 2 0 [(.int .i64 0), (.int .i64 0)] (.agg [(.int .i64 r9), (.int .i64 r10)]) [(.int .i64 r9), (.int .i64 r10)] [(.int .i64 r9), (.int .i64 r10)] H27 (by kernel_rfl) rfl (all_c rfl (all_c rfl all_n)) ⟨rfl, Nat.le_of_ble_eq_true (by kernel_rfl), rfl⟩ ?_
          refine t_done [(.int .i64 window0), events1, (.int .i64 change2), (.int .i64 3), (.int .i64 r26), (.agg [(.int .i64 r9), (.int .i64 r10)]), (.agg [(.int .i64 r9), (.int .i64 r10)]), (.bool (!(((r9) == 0) && (((r10) == 0) && true)))), (.agg [r6, r7, r8]), (.ptr b3 0), (.int .i64 r19), (.bool (decide (r19 ≥ 0))), (.int .i64 r23), (.bool (decide (r23 ≥ 0))), (.int .i64 r26), (.bool (decide (r26 ≥ 0)))] H27 (by kernel_rfl) ?_
          refine then_norm ?_
          refine w_ret ?_
          refine then_ret ?_
          exact body_ret (vs := [(.int .i64 3), (.int .i64 r26), (.agg [(.int .i64 r9), (.int .i64 r10)])]) _ (by kernel_rfl) rfl h
        · replace h := h.2 (is_dec.f hc)
          refine w_skip ?_
          refine then_norm ?_
          refine w_seq ?_
          refine w_run [1, 0, 0, 1] ?_
          refine t_build true [(.int .i64 0), (.int .i64 0)] [(0, 1, .loc 0), (1, 1, .loc 1)] [(.int .i64 6), (.int .i64 (-3))] [(.int .i64 6), (.int .i64 (-3))] H27 (by kernel_rfl) (fill_c (vs := [(.int .i64 6)]) (size := 1) rfl (by kernel_rfl) (by kernel_rfl) (fill_c (vs := [(.int .i64 (-3))]) (size := 1) rfl (by kernel_rfl) (by kernel_rfl) (by kernel_rfl))) ?_
          refine t_upd true 2 0 [(.int .i64 0), (.int .i64 0)] (.agg [(.int .i64 6), (.int .i64 (-3))]) [(.int .i64 6), (.int .i64 (-3))] [(.int .i64 6), (.int .i64 (-3))] H27 (by kernel_rfl) rfl (all_c rfl (all_c rfl all_n)) ⟨rfl, Nat.le_of_ble_eq_true (by kernel_rfl), rfl⟩ ?_
          refine t_done [(.int .i64 window0), events1, (.int .i64 change2), (.int .i64 0), (.int .i64 0), (.agg [(.int .i64 6), (.int .i64 (-3))]), (.agg [(.int .i64 r9), (.int .i64 r10)]), (.bool (!(((r9) == 0) && (((r10) == 0) && true)))), (.agg [r6, r7, r8]), (.ptr b3 0), (.int .i64 r19), (.bool (decide (r19 ≥ 0))), (.int .i64 r23), (.bool (decide (r23 ≥ 0))), (.int .i64 r26), (.bool (decide (r26 ≥ 0)))] H27 (by kernel_rfl) ?_
          refine then_norm ?_
          refine w_ret ?_
          exact body_ret (vs := [(.int .i64 0), (.int .i64 0), (.agg [(.int .i64 6), (.int .i64 (-3))])]) _ (by kernel_rfl) rfl h

end Go.RM

