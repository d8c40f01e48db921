/-
  Functions of the program as the abstract machine runs them, and what must be shown of a run: printed by RmPrint.
-/
import Derived.Test.YtmiinaimpdbenaaRmVc
namespace Go.RM
set_option linter.unusedVariables false
set_option maxRecDepth 4000
-- slices_Contains__int_int
def rf_slices_Contains__int_int (nslices_Index__int_int : Nat) : RFunc := ⟨2, 3, [.var 2],
 ((.seq (.ops [⟨.move (.k (.bool false)), none, (some 2), true⟩])
 ((.seq (.ops [⟨.move (.var 0), none, none, true⟩, ⟨.move (.var 1), none, none, true⟩, ⟨.callS nslices_Index__int_int [(.loc 0), (.loc 1)], none, none, true⟩, ⟨.bin .geq .no (.loc 2) (.k (.int .i64 0)), none, none, true⟩, ⟨.move (.loc 3), none, (some 2), true⟩])
 (.ret)))))⟩
theorem v_slices_Contains__int_int {F : Nat → Option RFunc} {me nslices_Index__int_int : Nat} (hF : F me = some (rf_slices_Contains__int_int nslices_Index__int_int)) {fl : Nat} {H : Heap} {Q : AV → Heap → Prop} (s0 : AV) (v1 : Int)
  (h : Ret F fl nslices_Index__int_int [s0, (.int .i64 v1)] H (fun v4 H3 => ∃ (r2 : Int), v4 = (.int .i64 r2) ∧ Q (.bool (decide (r2 ≥ 0))) H3)) : Ret F fl me [s0, (.int .i64 v1)] H Q := by
  refine ret_intro hF rfl ?_
  refine w_seq ?_
  refine w_run [0] ?_
  refine t_done [s0, (.int .i64 v1), (.bool false)] H (by kernel_rfl) ?_
  refine then_norm ?_
  refine w_seq ?_
  refine w_run [0, 0, 1, 0, 0] ?_
  refine t_call true nslices_Index__int_int [s0, (.int .i64 v1)] H (by kernel_rfl) h ?_
  clear h
  rintro _ H3 ⟨r2, rfl, h⟩
  refine t_done [s0, (.int .i64 v1), (.bool (decide (r2 ≥ 0)))] H3 (by kernel_rfl) ?_
  refine then_norm ?_
  refine w_ret ?_
  exact body_ret (vs := [(.bool (decide (r2 ≥ 0)))]) _ (by kernel_rfl) rfl h

-- slices_Index__int_int
def rf_slices_Index__int_int : RFunc := ⟨2, 8, [.var 2],
 ((.seq (.ops [⟨.move (.k (.int .i64 0)), none, (some 2), true⟩])
 ((.seq ((.seq (.ops [⟨.move (.var 0), none, none, true⟩, ⟨.len (.loc 0), none, (some 4), true⟩, ⟨.move (.k (.int .i64 0)), none, (some 3), true⟩])
 (.block 0 (.loop ((.seq (.ops [⟨.bin .lss .no (.var 3) (.var 4), none, (some 5), true⟩])
 ((.seq (.cond (.var 5) (.skip) (.exit 0))
 ((.seq (.block 1 ((.seq (.ops [⟨.move (.var 3), none, none, true⟩, ⟨.move (.loc 0), none, (some 6), true⟩])
 ((.seq (.ops [⟨.move (.var 1), none, none, true⟩, ⟨.move (.var 0), none, none, true⟩, ⟨.move (.var 6), none, none, true⟩, ⟨.indexAddr 1 (.loc 1) (.loc 2), none, none, true⟩, ⟨.load none (.loc 3), none, none, true⟩, ⟨.bin .eql .no (.loc 0) (.loc 4), none, (some 7), true⟩])
 (.cond (.var 7) ((.seq (.ops [⟨.move (.var 6), none, none, true⟩, ⟨.move (.loc 0), none, (some 2), true⟩])
 (.ret))) (.skip)))))))
 (.ops [⟨.bin .add .no (.var 3) (.k (.int .i64 1)), none, none, true⟩, ⟨.move (.loc 0), none, (some 3), true⟩])))))))))))
 ((.seq (.ops [⟨.move (.k (.int .i64 (-1))), none, (some 2), true⟩])
 (.ret)))))))⟩
theorem v_slices_Index__int_int {F : Nat → Option RFunc} {me : Nat} (hF : F me = some (rf_slices_Index__int_int )) {fl : Nat} {H : Heap} {Q : AV → Heap → Prop} (s0 : AV) (v1 : Int)
  (h : ∃ len2 : Nat, lenA s0 = some len2 ∧ ∃ (J3 : Nat → Int → Prop) (k4 : Nat), J3 k4 0 ∧ (∀ (m5 : Nat) (v7 : Int), J3 m5 v7 → ((v7 < (len2 : Int)) → ∃ (e11 : Int), getA H 1 none s0 v7 0 = some (.int .i64 e11) ∧ ((v1 = e11) → Q (.int .i64 v7) H) ∧ (¬(v1 = e11) → ∃ m13 : Nat, m13 < m5 ∧ J3 m13 (IntKind.wrap .i64 (v7 + 1)))) ∧ (¬(v7 < (len2 : Int)) → Q (.int .i64 (-1)) H))) : Ret F fl me [s0, (.int .i64 v1)] H Q := by
  refine ret_intro hF rfl ?_
  refine w_seq ?_
  refine w_run [0] ?_
  refine t_done [s0, (.int .i64 v1), (.int .i64 0), .undef, .undef, .undef, .undef, .undef] H (by kernel_rfl) ?_
  refine then_norm ?_
  refine w_seq ?_
  refine w_seq ?_
  refine w_run [0, 1, 0] ?_
  obtain ⟨len2, hl, h⟩ := h
  refine t_len true s0 len2 H (by kernel_rfl) hl ?_
  refine t_done [s0, (.int .i64 v1), (.int .i64 0), (.int .i64 0), (.int .i64 (len2 : Int)), .undef, .undef, .undef] H (by kernel_rfl) ?_
  refine then_norm ?_
  refine w_block ?_
  obtain ⟨J3, k4, h0, h⟩ := h
  refine w_loop (I := fun mI EI HI => ∃ (d6 : AV) (v7 : Int) (d8 : AV) (d9 : AV) (d10 : AV), EI = [s0, (.int .i64 v1), d6, (.int .i64 v7), (.int .i64 (len2 : Int)), d8, d9, d10] ∧ H = HI ∧ J3 mI v7) ?_ k4 ⟨_, _, _, _, _, rfl, rfl, h0⟩
  clear h0
  rintro m5 EI HI ⟨d6, v7, d8, d9, d10, rfl, rfl, hJ⟩
  replace h := h m5 v7  hJ
  clear hJ
  refine w_seq ?_
  refine w_run [0] ?_
  refine t_done [s0, (.int .i64 v1), d6, (.int .i64 v7), (.int .i64 (len2 : Int)), (.bool (decide (v7 < (len2 : Int)))), d9, d10] H (by kernel_rfl) ?_
  refine then_norm ?_
  refine w_seq ?_
  refine w_cond (t := (decide (v7 < (len2 : Int)))) rfl (fun hc => ?_) (fun hc => ?_)
  · replace h := h.1 (is_dec.t hc)
    refine w_skip ?_
    refine then_norm ?_
    refine w_seq ?_
    refine w_block ?_
    refine w_seq ?_
    refine w_run [0, 0] ?_
    refine t_done [s0, (.int .i64 v1), d6, (.int .i64 v7), (.int .i64 (len2 : Int)), (.bool (decide (v7 < (len2 : Int)))), (.int .i64 v7), d10] H (by kernel_rfl) ?_
    refine then_norm ?_
    refine w_seq ?_
    refine w_run [0, 0, 0, 1, 1, 0] ?_
    obtain ⟨e11, hg12, h⟩ := h
    refine t_idxG true 1 s0 .i64 v7 H (by kernel_rfl) hg12 ?_
    refine t_loadG true none 1 s0 v7 0 (.int .i64 e11) H (by kernel_rfl) hg12 ?_
    refine t_done [s0, (.int .i64 v1), d6, (.int .i64 v7), (.int .i64 (len2 : Int)), (.bool (decide (v7 < (len2 : Int)))), (.int .i64 v7), (.bool (v1 == e11))] H (by kernel_rfl) ?_
    refine then_norm ?_
    refine w_cond (t := (v1 == e11)) rfl (fun hc => ?_) (fun hc => ?_)
    · replace h := h.1 (is_eq.t hc)
      refine w_seq ?_
      refine w_run [0, 0] ?_
      refine t_done [s0, (.int .i64 v1), (.int .i64 v7), (.int .i64 v7), (.int .i64 (len2 : Int)), (.bool (decide (v7 < (len2 : Int)))), (.int .i64 v7), (.bool (v1 == e11))] H (by kernel_rfl) ?_
      refine then_norm ?_
      refine w_ret ?_
      refine block_ret ?_
      refine then_ret ?_
      refine loop_ret ?_
      refine block_ret ?_
      refine then_ret ?_
      exact body_ret (vs := [(.int .i64 v7)]) _ (by kernel_rfl) rfl h
    · replace h := h.2 (is_eq.f hc)
      refine w_skip ?_
      refine block_norm ?_
      refine then_norm ?_
      refine w_run [0, 0] ?_
      refine t_done [s0, (.int .i64 v1), d6, (.int .i64 (IntKind.wrap .i64 (v7 + 1))), (.int .i64 (len2 : Int)), (.bool (decide (v7 < (len2 : Int)))), (.int .i64 v7), (.bool (v1 == e11))] H (by kernel_rfl) ?_
      obtain ⟨m', hm, h⟩ := h
      refine loop_norm ⟨m', hm, _, _, _, _, _, rfl, rfl, h⟩
  · replace h := h.2 (is_dec.f hc)
    refine w_exit ?_
    refine then_exit ?_
    refine loop_exit ?_
    refine block_exit ?_
    refine then_norm ?_
    refine w_seq ?_
    refine w_run [0] ?_
    refine t_done [s0, (.int .i64 v1), (.int .i64 (-1)), (.int .i64 v7), (.int .i64 (len2 : Int)), (.bool (decide (v7 < (len2 : Int)))), d9, d10] H (by kernel_rfl) ?_
    refine then_norm ?_
    refine w_ret ?_
    exact body_ret (vs := [(.int .i64 (-1))]) _ (by kernel_rfl) rfl h

-- slices_ContainsFunc__int_int
def rf_slices_ContainsFunc__int_int (nslices_IndexFunc__int_int : Nat) : RFunc := ⟨2, 3, [.var 2],
 ((.seq (.ops [⟨.move (.k (.bool false)), none, (some 2), true⟩])
 ((.seq (.ops [⟨.move (.var 0), none, none, true⟩, ⟨.move (.var 1), none, none, true⟩, ⟨.callS nslices_IndexFunc__int_int [(.loc 0), (.loc 1)], none, none, true⟩, ⟨.bin .geq .no (.loc 2) (.k (.int .i64 0)), none, none, true⟩, ⟨.move (.loc 3), none, (some 2), true⟩])
 (.ret)))))⟩
theorem v_slices_ContainsFunc__int_int {F : Nat → Option RFunc} {me nslices_IndexFunc__int_int : Nat} (hF : F me = some (rf_slices_ContainsFunc__int_int nslices_IndexFunc__int_int)) {fl : Nat} {H : Heap} {Q : AV → Heap → Prop} (s0 : AV) (fg1 : Nat) (fc2 : List AV)
  (h : Ret F fl nslices_IndexFunc__int_int [s0, (.func fg1 fc2)] H (fun v5 H4 => ∃ (r3 : Int), v5 = (.int .i64 r3) ∧ Q (.bool (decide (r3 ≥ 0))) H4)) : Ret F fl me [s0, (.func fg1 fc2)] H Q := by
  refine ret_intro hF rfl ?_
  refine w_seq ?_
  refine w_run [0] ?_
  refine t_done [s0, (.func fg1 fc2), (.bool false)] H (by kernel_rfl) ?_
  refine then_norm ?_
  refine w_seq ?_
  refine w_run [0, 0, 1, 0, 0] ?_
  refine t_call true nslices_IndexFunc__int_int [s0, (.func fg1 fc2)] H (by kernel_rfl) h ?_
  clear h
  rintro _ H4 ⟨r3, rfl, h⟩
  refine t_done [s0, (.func fg1 fc2), (.bool (decide (r3 ≥ 0)))] H4 (by kernel_rfl) ?_
  refine then_norm ?_
  refine w_ret ?_
  exact body_ret (vs := [(.bool (decide (r3 ≥ 0)))]) _ (by kernel_rfl) rfl h

-- slices_IndexFunc__int_int
def rf_slices_IndexFunc__int_int : RFunc := ⟨2, 8, [.var 2],
 ((.seq (.ops [⟨.move (.k (.int .i64 0)), none, (some 2), true⟩])
 ((.seq ((.seq (.ops [⟨.move (.var 0), none, none, true⟩, ⟨.len (.loc 0), none, (some 4), true⟩, ⟨.move (.k (.int .i64 0)), none, (some 3), true⟩])
 (.block 0 (.loop ((.seq (.ops [⟨.bin .lss .no (.var 3) (.var 4), none, (some 5), true⟩])
 ((.seq (.cond (.var 5) (.skip) (.exit 0))
 ((.seq (.block 1 ((.seq (.ops [⟨.move (.var 3), none, none, true⟩, ⟨.move (.loc 0), none, (some 6), true⟩])
 ((.seq (.ops [⟨.move (.var 1), none, none, true⟩, ⟨.move (.var 0), none, none, true⟩, ⟨.move (.var 6), none, none, true⟩, ⟨.indexAddr 1 (.loc 1) (.loc 2), none, none, true⟩, ⟨.load none (.loc 3), none, none, true⟩, ⟨.call (.loc 0) [(.loc 4)], none, (some 7), true⟩])
 (.cond (.var 7) ((.seq (.ops [⟨.move (.var 6), none, none, true⟩, ⟨.move (.loc 0), none, (some 2), true⟩])
 (.ret))) (.skip)))))))
 (.ops [⟨.bin .add .no (.var 3) (.k (.int .i64 1)), none, none, true⟩, ⟨.move (.loc 0), none, (some 3), true⟩])))))))))))
 ((.seq (.ops [⟨.move (.k (.int .i64 (-1))), none, (some 2), true⟩])
 (.ret)))))))⟩
theorem v_slices_IndexFunc__int_int {F : Nat → Option RFunc} {me : Nat} (hF : F me = some (rf_slices_IndexFunc__int_int )) {fl : Nat} {H : Heap} {Q : AV → Heap → Prop} (s0 : AV) (fg1 : Nat) (fc2 : List AV)
  (h : ∃ len3 : Nat, lenA s0 = some len3 ∧ ∃ (J4 : Nat → Int → Heap → Prop) (k5 : Nat), J4 k5 0 H ∧ (∀ (m6 : Nat) (v8 : Int) (H12 : Heap), J4 m6 v8 H12 → ((v8 < (len3 : Int)) → ∃ (e13 : Int), getA H12 1 none s0 v8 0 = some (.int .i64 e13) ∧ Ret F fl fg1 (([(.int .i64 e13)] : List AV) ++ fc2) H12 (fun v17 H16 => ∃ (r15 : Bool), v17 = (.bool r15) ∧ ((r15 = true) → Q (.int .i64 v8) H16) ∧ (¬(r15 = true) → ∃ m18 : Nat, m18 < m6 ∧ J4 m18 (IntKind.wrap .i64 (v8 + 1)) H16))) ∧ (¬(v8 < (len3 : Int)) → Q (.int .i64 (-1)) H12))) : Ret F fl me [s0, (.func fg1 fc2)] H Q := by
  refine ret_intro hF rfl ?_
  refine w_seq ?_
  refine w_run [0] ?_
  refine t_done [s0, (.func fg1 fc2), (.int .i64 0), .undef, .undef, .undef, .undef, .undef] H (by kernel_rfl) ?_
  refine then_norm ?_
  refine w_seq ?_
  refine w_seq ?_
  refine w_run [0, 1, 0] ?_
  obtain ⟨len3, hl, h⟩ := h
  refine t_len true s0 len3 H (by kernel_rfl) hl ?_
  refine t_done [s0, (.func fg1 fc2), (.int .i64 0), (.int .i64 0), (.int .i64 (len3 : Int)), .undef, .undef, .undef] H (by kernel_rfl) ?_
  refine then_norm ?_
  refine w_block ?_
  obtain ⟨J4, k5, h0, h⟩ := h
  refine w_loop (I := fun mI EI HI => ∃ (d7 : AV) (v8 : Int) (d9 : AV) (d10 : AV) (d11 : AV), EI = [s0, (.func fg1 fc2), d7, (.int .i64 v8), (.int .i64 (len3 : Int)), d9, d10, d11] ∧ J4 mI v8 HI) ?_ k5 ⟨_, _, _, _, _, rfl, h0⟩
  clear h0
  rintro m6 EI H12 ⟨d7, v8, d9, d10, d11, rfl, hJ⟩
  replace h := h m6 v8 H12 hJ
  clear hJ
  refine w_seq ?_
  refine w_run [0] ?_
  refine t_done [s0, (.func fg1 fc2), d7, (.int .i64 v8), (.int .i64 (len3 : Int)), (.bool (decide (v8 < (len3 : Int)))), d10, d11] H12 (by kernel_rfl) ?_
  refine then_norm ?_
  refine w_seq ?_
  refine w_cond (t := (decide (v8 < (len3 : Int)))) rfl (fun hc => ?_) (fun hc => ?_)
  · replace h := h.1 (is_dec.t hc)
    refine w_skip ?_
    refine then_norm ?_
    refine w_seq ?_
    refine w_block ?_
    refine w_seq ?_
    refine w_run [0, 0] ?_
    refine t_done [s0, (.func fg1 fc2), d7, (.int .i64 v8), (.int .i64 (len3 : Int)), (.bool (decide (v8 < (len3 : Int)))), (.int .i64 v8), d11] H12 (by kernel_rfl) ?_
    refine then_norm ?_
    refine w_seq ?_
    refine w_run [0, 0, 0, 1, 1, 1] ?_
    obtain ⟨e13, hg14, h⟩ := h
    refine t_idxG true 1 s0 .i64 v8 H12 (by kernel_rfl) hg14 ?_
    refine t_loadG true none 1 s0 v8 0 (.int .i64 e13) H12 (by kernel_rfl) hg14 ?_
    refine t_call true fg1 (([(.int .i64 e13)] : List AV) ++ fc2) H12 (by kernel_rfl) h ?_
    clear h
    rintro _ H16 ⟨r15, rfl, h⟩
    refine t_done [s0, (.func fg1 fc2), d7, (.int .i64 v8), (.int .i64 (len3 : Int)), (.bool (decide (v8 < (len3 : Int)))), (.int .i64 v8), (.bool r15)] H16 (by kernel_rfl) ?_
    refine then_norm ?_
    refine w_cond (t := r15) rfl (fun hc => ?_) (fun hc => ?_)
    · replace h := h.1 (is_raw.t hc)
      refine w_seq ?_
      refine w_run [0, 0] ?_
      refine t_done [s0, (.func fg1 fc2), (.int .i64 v8), (.int .i64 v8), (.int .i64 (len3 : Int)), (.bool (decide (v8 < (len3 : Int)))), (.int .i64 v8), (.bool r15)] H16 (by kernel_rfl) ?_
      refine then_norm ?_
      refine w_ret ?_
      refine block_ret ?_
      refine then_ret ?_
      refine loop_ret ?_
      refine block_ret ?_
      refine then_ret ?_
      exact body_ret (vs := [(.int .i64 v8)]) _ (by kernel_rfl) rfl h
    · replace h := h.2 (is_raw.f hc)
      refine w_skip ?_
      refine block_norm ?_
      refine then_norm ?_
      refine w_run [0, 0] ?_
      refine t_done [s0, (.func fg1 fc2), d7, (.int .i64 (IntKind.wrap .i64 (v8 + 1))), (.int .i64 (len3 : Int)), (.bool (decide (v8 < (len3 : Int)))), (.int .i64 v8), (.bool r15)] H16 (by kernel_rfl) ?_
      obtain ⟨m', hm, h⟩ := h
      refine loop_norm ⟨m', hm, _, _, _, _, _, rfl, h⟩
  · replace h := h.2 (is_dec.f hc)
    refine w_exit ?_
    refine then_exit ?_
    refine loop_exit ?_
    refine block_exit ?_
    refine then_norm ?_
    refine w_seq ?_
    refine w_run [0] ?_
    refine t_done [s0, (.func fg1 fc2), (.int .i64 (-1)), (.int .i64 v8), (.int .i64 (len3 : Int)), (.bool (decide (v8 < (len3 : Int)))), d10, d11] H12 (by kernel_rfl) ?_
    refine then_norm ?_
    refine w_ret ?_
    exact body_ret (vs := [(.int .i64 (-1))]) _ (by kernel_rfl) rfl h

-- slices_ContainsFunc___int__int
def rf_slices_ContainsFunc___int__int (nslices_IndexFunc___int__int : Nat) : RFunc := ⟨2, 3, [.var 2],
 ((.seq (.ops [⟨.move (.k (.bool false)), none, (some 2), true⟩])
 ((.seq (.ops [⟨.move (.var 0), none, none, true⟩, ⟨.move (.var 1), none, none, true⟩, ⟨.callS nslices_IndexFunc___int__int [(.loc 0), (.loc 1)], none, none, true⟩, ⟨.bin .geq .no (.loc 2) (.k (.int .i64 0)), none, none, true⟩, ⟨.move (.loc 3), none, (some 2), true⟩])
 (.ret)))))⟩
theorem v_slices_ContainsFunc___int__int {F : Nat → Option RFunc} {me nslices_IndexFunc___int__int : Nat} (hF : F me = some (rf_slices_ContainsFunc___int__int nslices_IndexFunc___int__int)) {fl : Nat} {H : Heap} {Q : AV → Heap → Prop} (s0 : AV) (fg1 : Nat) (fc2 : List AV)
  (h : Ret F fl nslices_IndexFunc___int__int [s0, (.func fg1 fc2)] H (fun v5 H4 => ∃ (r3 : Int), v5 = (.int .i64 r3) ∧ Q (.bool (decide (r3 ≥ 0))) H4)) : Ret F fl me [s0, (.func fg1 fc2)] H Q := by
  refine ret_intro hF rfl ?_
  refine w_seq ?_
  refine w_run [0] ?_
  refine t_done [s0, (.func fg1 fc2), (.bool false)] H (by kernel_rfl) ?_
  refine then_norm ?_
  refine w_seq ?_
  refine w_run [0, 0, 1, 0, 0] ?_
  refine t_call true nslices_IndexFunc___int__int [s0, (.func fg1 fc2)] H (by kernel_rfl) h ?_
  clear h
  rintro _ H4 ⟨r3, rfl, h⟩
  refine t_done [s0, (.func fg1 fc2), (.bool (decide (r3 ≥ 0)))] H4 (by kernel_rfl) ?_
  refine then_norm ?_
  refine w_ret ?_
  exact body_ret (vs := [(.bool (decide (r3 ≥ 0)))]) _ (by kernel_rfl) rfl h

-- slices_IndexFunc___int__int
def rf_slices_IndexFunc___int__int : RFunc := ⟨2, 8, [.var 2],
 ((.seq (.ops [⟨.move (.k (.int .i64 0)), none, (some 2), true⟩])
 ((.seq ((.seq (.ops [⟨.move (.var 0), none, none, true⟩, ⟨.len (.loc 0), none, (some 4), true⟩, ⟨.move (.k (.int .i64 0)), none, (some 3), true⟩])
 (.block 0 (.loop ((.seq (.ops [⟨.bin .lss .no (.var 3) (.var 4), none, (some 5), true⟩])
 ((.seq (.cond (.var 5) (.skip) (.exit 0))
 ((.seq (.block 1 ((.seq (.ops [⟨.move (.var 3), none, none, true⟩, ⟨.move (.loc 0), none, (some 6), true⟩])
 ((.seq (.ops [⟨.move (.var 1), none, none, true⟩, ⟨.move (.var 0), none, none, true⟩, ⟨.move (.var 6), none, none, true⟩, ⟨.indexAddr 1 (.loc 1) (.loc 2), none, none, true⟩, ⟨.load none (.loc 3), none, none, true⟩, ⟨.call (.loc 0) [(.loc 4)], none, (some 7), true⟩])
 (.cond (.var 7) ((.seq (.ops [⟨.move (.var 6), none, none, true⟩, ⟨.move (.loc 0), none, (some 2), true⟩])
 (.ret))) (.skip)))))))
 (.ops [⟨.bin .add .no (.var 3) (.k (.int .i64 1)), none, none, true⟩, ⟨.move (.loc 0), none, (some 3), true⟩])))))))))))
 ((.seq (.ops [⟨.move (.k (.int .i64 (-1))), none, (some 2), true⟩])
 (.ret)))))))⟩
theorem v_slices_IndexFunc___int__int {F : Nat → Option RFunc} {me : Nat} (hF : F me = some (rf_slices_IndexFunc___int__int )) {fl : Nat} {H : Heap} {Q : AV → Heap → Prop} (s0 : AV) (fg1 : Nat) (fc2 : List AV)
  (h : ∃ len3 : Nat, lenA s0 = some len3 ∧ ∃ (J4 : Nat → Int → Heap → Prop) (k5 : Nat), J4 k5 0 H ∧ (∀ (m6 : Nat) (v8 : Int) (H12 : Heap), J4 m6 v8 H12 → ((v8 < (len3 : Int)) → ∃ (e13 : AV), getA H12 1 none s0 v8 0 = some e13 ∧ Ret F fl fg1 (([e13] : List AV) ++ fc2) H12 (fun v17 H16 => ∃ (r15 : Bool), v17 = (.bool r15) ∧ ((r15 = true) → Q (.int .i64 v8) H16) ∧ (¬(r15 = true) → ∃ m18 : Nat, m18 < m6 ∧ J4 m18 (IntKind.wrap .i64 (v8 + 1)) H16))) ∧ (¬(v8 < (len3 : Int)) → Q (.int .i64 (-1)) H12))) : Ret F fl me [s0, (.func fg1 fc2)] H Q := by
  refine ret_intro hF rfl ?_
  refine w_seq ?_
  refine w_run [0] ?_
  refine t_done [s0, (.func fg1 fc2), (.int .i64 0), .undef, .undef, .undef, .undef, .undef] H (by kernel_rfl) ?_
  refine then_norm ?_
  refine w_seq ?_
  refine w_seq ?_
  refine w_run [0, 1, 0] ?_
  obtain ⟨len3, hl, h⟩ := h
  refine t_len true s0 len3 H (by kernel_rfl) hl ?_
  refine t_done [s0, (.func fg1 fc2), (.int .i64 0), (.int .i64 0), (.int .i64 (len3 : Int)), .undef, .undef, .undef] H (by kernel_rfl) ?_
  refine then_norm ?_
  refine w_block ?_
  obtain ⟨J4, k5, h0, h⟩ := h
  refine w_loop (I := fun mI EI HI => ∃ (d7 : AV) (v8 : Int) (d9 : AV) (d10 : AV) (d11 : AV), EI = [s0, (.func fg1 fc2), d7, (.int .i64 v8), (.int .i64 (len3 : Int)), d9, d10, d11] ∧ J4 mI v8 HI) ?_ k5 ⟨_, _, _, _, _, rfl, h0⟩
  clear h0
  rintro m6 EI H12 ⟨d7, v8, d9, d10, d11, rfl, hJ⟩
  replace h := h m6 v8 H12 hJ
  clear hJ
  refine w_seq ?_
  refine w_run [0] ?_
  refine t_done [s0, (.func fg1 fc2), d7, (.int .i64 v8), (.int .i64 (len3 : Int)), (.bool (decide (v8 < (len3 : Int)))), d10, d11] H12 (by kernel_rfl) ?_
  refine then_norm ?_
  refine w_seq ?_
  refine w_cond (t := (decide (v8 < (len3 : Int)))) rfl (fun hc => ?_) (fun hc => ?_)
  · replace h := h.1 (is_dec.t hc)
    refine w_skip ?_
    refine then_norm ?_
    refine w_seq ?_
    refine w_block ?_
    refine w_seq ?_
    refine w_run [0, 0] ?_
    refine t_done [s0, (.func fg1 fc2), d7, (.int .i64 v8), (.int .i64 (len3 : Int)), (.bool (decide (v8 < (len3 : Int)))), (.int .i64 v8), d11] H12 (by kernel_rfl) ?_
    refine then_norm ?_
    refine w_seq ?_
    refine w_run [0, 0, 0, 1, 1, 1] ?_
    obtain ⟨e13, hg14, h⟩ := h
    refine t_idxG true 1 s0 .i64 v8 H12 (by kernel_rfl) hg14 ?_
    refine t_loadG true none 1 s0 v8 0 e13 H12 (by kernel_rfl) hg14 ?_
    refine t_call true fg1 (([e13] : List AV) ++ fc2) H12 (by kernel_rfl) h ?_
    clear h
    rintro _ H16 ⟨r15, rfl, h⟩
    refine t_done [s0, (.func fg1 fc2), d7, (.int .i64 v8), (.int .i64 (len3 : Int)), (.bool (decide (v8 < (len3 : Int)))), (.int .i64 v8), (.bool r15)] H16 (by kernel_rfl) ?_
    refine then_norm ?_
    refine w_cond (t := r15) rfl (fun hc => ?_) (fun hc => ?_)
    · replace h := h.1 (is_raw.t hc)
      refine w_seq ?_
      refine w_run [0, 0] ?_
      refine t_done [s0, (.func fg1 fc2), (.int .i64 v8), (.int .i64 v8), (.int .i64 (len3 : Int)), (.bool (decide (v8 < (len3 : Int)))), (.int .i64 v8), (.bool r15)] H16 (by kernel_rfl) ?_
      refine then_norm ?_
      refine w_ret ?_
      refine block_ret ?_
      refine then_ret ?_
      refine loop_ret ?_
      refine block_ret ?_
      refine then_ret ?_
      exact body_ret (vs := [(.int .i64 v8)]) _ (by kernel_rfl) rfl h
    · replace h := h.2 (is_raw.f hc)
      refine w_skip ?_
      refine block_norm ?_
      refine then_norm ?_
      refine w_run [0, 0] ?_
      refine t_done [s0, (.func fg1 fc2), d7, (.int .i64 (IntKind.wrap .i64 (v8 + 1))), (.int .i64 (len3 : Int)), (.bool (decide (v8 < (len3 : Int)))), (.int .i64 v8), (.bool r15)] H16 (by kernel_rfl) ?_
      obtain ⟨m', hm, h⟩ := h
      refine loop_norm ⟨m', hm, _, _, _, _, _, rfl, h⟩
  · replace h := h.2 (is_dec.f hc)
    refine w_exit ?_
    refine then_exit ?_
    refine loop_exit ?_
    refine block_exit ?_
    refine then_norm ?_
    refine w_seq ?_
    refine w_run [0] ?_
    refine t_done [s0, (.func fg1 fc2), (.int .i64 (-1)), (.int .i64 v8), (.int .i64 (len3 : Int)), (.bool (decide (v8 < (len3 : Int)))), d10, d11] H12 (by kernel_rfl) ?_
    refine then_norm ?_
    refine w_ret ?_
    exact body_ret (vs := [(.int .i64 (-1))]) _ (by kernel_rfl) rfl h

end Go.RM
