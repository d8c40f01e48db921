/-
  Functions of the program as the abstract machine runs them, and what must be shown of a run: printed by RmPrint.
-/
import Derived.Test.YtknhokihjigpiaaRmVc
namespace Go.RM
set_option linter.unusedVariables false
set_option maxRecDepth 4000
-- batchbisect_setCode
def rf_batchbisect_setCode : RFunc := ⟨2, 11, [.var 2],
 ((.seq (.ops [⟨.move (.k (.int .i64 0)), none, (some 2), true⟩])
 ((.seq ((.seq (.ops [⟨.move (.var 1), none, (some 6), true⟩, ⟨.len (.loc 0), none, (some 4), true⟩, ⟨.move (.k (.int .i64 0)), none, (some 3), true⟩])
 (.block 0 (.loop ((.seq (.ops [⟨.bin .lss .no (.var 3) (.var 4), none, (some 5), true⟩])
 ((.seq (.cond (.var 5) (.skip) (.exit 0))
 ((.seq (.block 1 ((.seq (.ops [⟨.move (.var 3), none, none, true⟩, ⟨.indexAddr 1 (.var 6) (.var 3), none, none, true⟩, ⟨.load none (.loc 1), none, none, true⟩, ⟨.move (.loc 0), none, (some 9), true⟩, ⟨.move (.loc 2), none, (some 7), true⟩])
 (.block 2 ((.seq (.ops [⟨.move (.var 7), none, none, true⟩, ⟨.bin .lss .no (.loc 0) (.k (.int .i64 0)), none, none, true⟩, ⟨.move (.loc 1), none, none, true⟩, ⟨.move (.var 7), none, none, true⟩, ⟨.move (.var 0), none, none, true⟩, ⟨.bin .geq .no (.loc 3) (.loc 4), none, none, true⟩, ⟨.pick (.loc 2) (.k (.bool true)) (.loc 5), none, none, true⟩, ⟨.move (.loc 6), none, (some 8), true⟩])
 (.cond (.var 8) ((.seq (.ops [⟨.move (.k (.int .i64 3)), none, (some 2), true⟩])
 (.ret))) ((.seq (.ops [⟨.move (.var 9), none, none, true⟩, ⟨.bin .gtr .no (.loc 0) (.k (.int .i64 0)), none, none, true⟩, ⟨.move (.loc 1), none, none, true⟩, ⟨.move (.var 7), none, none, true⟩, ⟨.move (.var 1), none, none, true⟩, ⟨.move (.var 9), none, none, true⟩, ⟨.bin .sub .no (.loc 5) (.k (.int .i64 1)), none, none, true⟩, ⟨.indexAddr 1 (.loc 4) (.loc 6), (some (2, true)), none, true⟩, ⟨.load none (.loc 7), (some (2, true)), none, true⟩, ⟨.bin .leq .no (.loc 3) (.loc 8), (some (2, true)), none, true⟩, ⟨.pick (.loc 2) (.loc 9) (.k (.bool false)), none, none, true⟩, ⟨.move (.loc 10), none, (some 10), true⟩])
 (.cond (.var 10) ((.seq (.ops [⟨.move (.k (.int .i64 5)), none, (some 2), true⟩])
 (.ret))) (.skip)))))))))))
 (.ops [⟨.bin .add .no (.var 3) (.k (.int .i64 1)), none, none, true⟩, ⟨.move (.loc 0), none, (some 3), true⟩])))))))))))
 ((.seq (.ops [⟨.move (.k (.int .i64 0)), none, (some 2), true⟩])
 (.ret)))))))⟩
theorem v_batchbisect_setCode {F : Nat → Option RFunc} {me : Nat} (hF : F me = some (rf_batchbisect_setCode )) {fl : Nat} {H : Heap} {Q : AV → Heap → Prop} (n0 : Int) (set1 : AV)
  (h : ∃ len2 : Nat, lenA set1 = some len2 ∧ ∃ (J3 : Nat → Int → Prop) (k4 : Nat), J3 k4 0 ∧ (∀ (m5 : Nat) (v7 : Int), J3 m5 v7 → ((v7 < (len2 : Int)) → ∃ (e13 : Int), getA H 1 none set1 v7 0 = some (.int .i64 e13) ∧ ((((e13 < 0) ∨ (e13 ≥ n0))) → Q (.int .i64 3) H) ∧ (¬(((e13 < 0) ∨ (e13 ≥ n0))) → ((v7 > 0) → ∃ (e15 : Int), getA H 1 none set1 (IntKind.wrap .i64 (v7 - 1)) 0 = some (.int .i64 e15) ∧ ((e13 ≤ e15) → Q (.int .i64 5) H) ∧ (¬(e13 ≤ e15) → ∃ m17 : Nat, m17 < m5 ∧ J3 m17 (IntKind.wrap .i64 (v7 + 1)))) ∧ (¬(v7 > 0) → ∃ m18 : Nat, m18 < m5 ∧ J3 m18 (IntKind.wrap .i64 (v7 + 1))))) ∧ (¬(v7 < (len2 : Int)) → Q (.int .i64 0) H))) : Ret F fl me [(.int .i64 n0), set1] H Q := by
  refine ret_intro hF rfl ?_
  refine w_seq ?_
  refine w_run [0] ?_
  refine t_done [(.int .i64 n0), set1, (.int .i64 0), .undef, .undef, .undef, .undef, .undef, .undef, .undef, .undef] H (by kernel_rfl) ?_
  refine then_norm ?_
  refine w_seq ?_
  refine w_seq ?_
  refine w_run [0, 1, 0] ?_
  obtain ⟨len2, hl, h⟩ := h
  refine t_len true set1 len2 H (by kernel_rfl) hl ?_
  refine t_done [(.int .i64 n0), set1, (.int .i64 0), (.int .i64 0), (.int .i64 (len2 : Int)), .undef, set1, .undef, .undef, .undef, .undef] H (by kernel_rfl) ?_
  refine then_norm ?_
  refine w_block ?_
  obtain ⟨J3, k4, h0, h⟩ := h
  refine w_loop (I := fun mI EI HI => ∃ (d6 : AV) (v7 : Int) (d8 : AV) (d9 : AV) (d10 : AV) (d11 : AV) (d12 : AV), EI = [(.int .i64 n0), set1, d6, (.int .i64 v7), (.int .i64 (len2 : Int)), d8, set1, d9, d10, d11, d12] ∧ H = HI ∧ J3 mI v7) ?_ k4 ⟨_, _, _, _, _, _, _, rfl, rfl, h0⟩
  clear h0
  rintro m5 EI HI ⟨d6, v7, d8, d9, d10, d11, d12, rfl, rfl, hJ⟩
  replace h := h m5 v7  hJ
  clear hJ
  refine w_seq ?_
  refine w_run [0] ?_
  refine t_done [(.int .i64 n0), set1, d6, (.int .i64 v7), (.int .i64 (len2 : Int)), (.bool (decide (v7 < (len2 : Int)))), set1, d9, d10, d11, d12] H (by kernel_rfl) ?_
  refine then_norm ?_
  refine w_seq ?_
  refine w_cond (t := (decide (v7 < (len2 : Int)))) rfl (fun hc => ?_) (fun hc => ?_)
  · replace h := h.1 (is_dec.t hc)
    refine w_skip ?_
    refine then_norm ?_
    refine w_seq ?_
    refine w_block ?_
    refine w_seq ?_
    refine w_run [0, 1, 1, 0, 0] ?_
    obtain ⟨e13, hg14, h⟩ := h
    refine t_idxG true 1 set1 .i64 v7 H (by kernel_rfl) hg14 ?_
    refine t_loadG true none 1 set1 v7 0 (.int .i64 e13) H (by kernel_rfl) hg14 ?_
    refine t_done [(.int .i64 n0), set1, d6, (.int .i64 v7), (.int .i64 (len2 : Int)), (.bool (decide (v7 < (len2 : Int)))), set1, (.int .i64 e13), d10, (.int .i64 v7), d12] H (by kernel_rfl) ?_
    refine then_norm ?_
    refine w_block ?_
    refine w_seq ?_
    refine w_run [0, 0, 0, 0, 0, 0, 0, 0] ?_
    refine t_done [(.int .i64 n0), set1, d6, (.int .i64 v7), (.int .i64 (len2 : Int)), (.bool (decide (v7 < (len2 : Int)))), set1, (.int .i64 e13), (.bool ((decide (e13 < 0)) || (decide (e13 ≥ n0)))), (.int .i64 v7), d12] H (by kernel_rfl) ?_
    refine then_norm ?_
    refine w_cond (t := ((decide (e13 < 0)) || (decide (e13 ≥ n0)))) rfl (fun hc => ?_) (fun hc => ?_)
    · replace h := h.1 ((is_or is_dec is_dec).t hc)
      refine w_seq ?_
      refine w_run [0] ?_
      refine t_done [(.int .i64 n0), set1, (.int .i64 3), (.int .i64 v7), (.int .i64 (len2 : Int)), (.bool (decide (v7 < (len2 : Int)))), set1, (.int .i64 e13), (.bool ((decide (e13 < 0)) || (decide (e13 ≥ n0)))), (.int .i64 v7), d12] H (by kernel_rfl) ?_
      refine then_norm ?_
      refine w_ret ?_
      refine block_ret ?_
      refine block_ret ?_
      refine then_ret ?_
      refine loop_ret ?_
      refine block_ret ?_
      refine then_ret ?_
      exact body_ret (vs := [(.int .i64 3)]) _ (by kernel_rfl) rfl h
    · replace h := h.2 ((is_or is_dec is_dec).f hc)
      refine w_seq ?_
      refine w_run [0, 0, 0, 0, 0, 0, 0, 3, 3, 2, 0, 0] ?_
      refine t_gd (decide (v7 > 0)) true (by kernel_rfl) (fun hc => ?_) (fun hc => ?_)
      · replace h := h.1 (is_dec.t hc)
        obtain ⟨e15, hg16, h⟩ := h
        refine t_idxG true 1 set1 .i64 (IntKind.wrap .i64 (v7 - 1)) H (by kernel_rfl) hg16 ?_
        refine t_gd true true (by kernel_rfl) (fun _ => ?_) (fun hn => by cases hn)
        refine t_loadG true none 1 set1 (IntKind.wrap .i64 (v7 - 1)) 0 (.int .i64 e15) H (by kernel_rfl) hg16 ?_
        refine t_gd true true (by kernel_rfl) (fun _ => ?_) (fun hn => by cases hn)
        refine t_done [(.int .i64 n0), set1, d6, (.int .i64 v7), (.int .i64 (len2 : Int)), (.bool (decide (v7 < (len2 : Int)))), set1, (.int .i64 e13), (.bool ((decide (e13 < 0)) || (decide (e13 ≥ n0)))), (.int .i64 v7), (.bool (decide (e13 ≤ e15)))] H (by kernel_rfl) ?_
        refine then_norm ?_
        refine w_cond (t := (decide (e13 ≤ e15))) rfl (fun hc => ?_) (fun hc => ?_)
        · replace h := h.1 (is_dec.t hc)
          refine w_seq ?_
          refine w_run [0] ?_
          refine t_done [(.int .i64 n0), set1, (.int .i64 5), (.int .i64 v7), (.int .i64 (len2 : Int)), (.bool (decide (v7 < (len2 : Int)))), set1, (.int .i64 e13), (.bool ((decide (e13 < 0)) || (decide (e13 ≥ n0)))), (.int .i64 v7), (.bool (decide (e13 ≤ e15)))] H (by kernel_rfl) ?_
          refine then_norm ?_
          refine w_ret ?_
          refine block_ret ?_
          refine block_ret ?_
          refine then_ret ?_
          refine loop_ret ?_
          refine block_ret ?_
          refine then_ret ?_
          exact body_ret (vs := [(.int .i64 5)]) _ (by kernel_rfl) rfl h
        · replace h := h.2 (is_dec.f hc)
          refine w_skip ?_
          refine block_norm ?_
          refine block_norm ?_
          refine then_norm ?_
          refine w_run [0, 0] ?_
          refine t_done [(.int .i64 n0), set1, d6, (.int .i64 (IntKind.wrap .i64 (v7 + 1))), (.int .i64 (len2 : Int)), (.bool (decide (v7 < (len2 : Int)))), set1, (.int .i64 e13), (.bool ((decide (e13 < 0)) || (decide (e13 ≥ n0)))), (.int .i64 v7), (.bool (decide (e13 ≤ e15)))] H (by kernel_rfl) ?_
          obtain ⟨m', hm, h⟩ := h
          refine loop_norm ⟨m', hm, _, _, _, _, _, _, _, rfl, rfl, h⟩
      · replace h := h.2 (is_dec.f hc)
        refine t_gd false true (by kernel_rfl) (fun hn => by cases hn) (fun _ => ?_)
        refine t_gd false true (by kernel_rfl) (fun hn => by cases hn) (fun _ => ?_)
        refine t_done [(.int .i64 n0), set1, d6, (.int .i64 v7), (.int .i64 (len2 : Int)), (.bool (decide (v7 < (len2 : Int)))), set1, (.int .i64 e13), (.bool ((decide (e13 < 0)) || (decide (e13 ≥ n0)))), (.int .i64 v7), (.bool false)] H (by kernel_rfl) ?_
        refine then_norm ?_
        refine w_cond (t := false) rfl (fun hc => by cases hc) (fun _ => ?_)
        refine w_skip ?_
        refine block_norm ?_
        refine block_norm ?_
        refine then_norm ?_
        refine w_run [0, 0] ?_
        refine t_done [(.int .i64 n0), set1, d6, (.int .i64 (IntKind.wrap .i64 (v7 + 1))), (.int .i64 (len2 : Int)), (.bool (decide (v7 < (len2 : Int)))), set1, (.int .i64 e13), (.bool ((decide (e13 < 0)) || (decide (e13 ≥ n0)))), (.int .i64 v7), (.bool false)] H (by kernel_rfl) ?_
        obtain ⟨m', hm, h⟩ := h
        refine loop_norm ⟨m', hm, _, _, _, _, _, _, _, rfl, rfl, h⟩
  · replace h := h.2 (is_dec.f hc)
    refine w_exit ?_
    refine then_exit ?_
    refine loop_exit ?_
    refine block_exit ?_
    refine then_norm ?_
    refine w_seq ?_
    refine w_run [0] ?_
    refine t_done [(.int .i64 n0), set1, (.int .i64 0), (.int .i64 v7), (.int .i64 (len2 : Int)), (.bool (decide (v7 < (len2 : Int)))), set1, d9, d10, d11, d12] H (by kernel_rfl) ?_
    refine then_norm ?_
    refine w_ret ?_
    exact body_ret (vs := [(.int .i64 0)]) _ (by kernel_rfl) rfl h

-- batchbisect_Failing
def rf_batchbisect_Failing (nbatchbisect_Failingx1 nslices_ContainsFunc___int__int : Nat) : RFunc := ⟨2, 4, [.var 2],
 ((.seq (.ops [⟨.box 1 (.var 1), none, (some 3), true⟩, ⟨.move (.k (.bool false)), none, (some 2), true⟩])
 ((.seq (.ops [⟨.move (.var 0), none, none, true⟩, ⟨.makeFunc nbatchbisect_Failingx1 [(.var 3)], none, none, true⟩, ⟨.callS nslices_ContainsFunc___int__int [(.loc 0), (.loc 1)], none, none, true⟩, ⟨.move (.loc 2), none, (some 2), true⟩])
 (.ret)))))⟩
theorem v_batchbisect_Failing {F : Nat → Option RFunc} {me nbatchbisect_Failingx1 nslices_ContainsFunc___int__int : Nat} (hF : F me = some (rf_batchbisect_Failing nbatchbisect_Failingx1 nslices_ContainsFunc___int__int)) {fl : Nat} {H : Heap} {Q : AV → Heap → Prop} (culprits0 : AV) (set1 : AV)
  (h : Scal set1 ∧ ∀ (b3 : Nat) (H4 : Heap), NewB H 1 [set1] b3 H4 → Ret F fl nslices_ContainsFunc___int__int [culprits0, (.func nbatchbisect_Failingx1 [(.ptr b3 0)])] H4 (fun v7 H6 => ∃ (r5 : Bool), v7 = (.bool r5) ∧ Q (.bool r5) H6)) : Ret F fl me [culprits0, set1] H Q := by
  refine ret_intro hF rfl ?_
  refine w_seq ?_
  refine w_run [1, 0] ?_
  obtain ⟨hs2, h⟩ := h
  obtain ⟨b3, H4, hb⟩ : ∃ b H', NewB H 1 [set1] b H' := ⟨_, _, rfl, rfl⟩
  replace h := h b3 H4 hb
  refine t_box true 1 set1 [set1] b3 H4 H (by kernel_rfl) hs2.1 hb ?_
  refine t_done [culprits0, set1, (.bool false), (.ptr b3 0)] H4 (by kernel_rfl) ?_
  refine then_norm ?_
  refine w_seq ?_
  refine w_run [0, 0, 1, 0] ?_
  refine t_call true nslices_ContainsFunc___int__int [culprits0, (.func nbatchbisect_Failingx1 [(.ptr b3 0)])] H4 (by kernel_rfl) h ?_
  clear h
  rintro _ H6 ⟨r5, rfl, h⟩
  refine t_done [culprits0, set1, (.bool r5), (.ptr b3 0)] H6 (by kernel_rfl) ?_
  refine then_norm ?_
  refine w_ret ?_
  exact body_ret (vs := [(.bool r5)]) _ (by kernel_rfl) rfl h

-- batchbisect_prefix
def rf_batchbisect_prefix : RFunc := ⟨1, 7, [.var 1],
 ((.seq (.ops [⟨.move (.k (.empty)), none, (some 1), true⟩])
 ((.seq (.ops [⟨.move (.k (.empty)), none, (some 5), true⟩])
 ((.seq ((.seq (.ops [⟨.move (.var 0), none, (some 3), true⟩, ⟨.move (.k (.int .i64 0)), none, (some 2), true⟩])
 (.block 0 (.loop ((.seq (.ops [⟨.bin .lss .no (.var 2) (.var 3), none, (some 4), true⟩])
 ((.seq (.cond (.var 4) (.skip) (.exit 0))
 ((.seq (.block 1 ((.seq (.ops [⟨.move (.var 2), none, none, true⟩, ⟨.move (.loc 0), none, (some 6), true⟩])
 (.ops [⟨.move (.var 5), none, none, true⟩, ⟨.move (.var 6), none, none, true⟩, ⟨.buildSlice 1 [.int .i64 0] [(0, 1, (.loc 1))] 1, none, none, true⟩, ⟨.append 1 8 (.loc 0) (.loc 2), none, none, true⟩, ⟨.move (.loc 3), none, (some 5), true⟩]))))
 (.ops [⟨.bin .add .no (.var 2) (.k (.int .i64 1)), none, none, true⟩, ⟨.move (.loc 0), none, (some 2), true⟩])))))))))))
 ((.seq (.ops [⟨.move (.var 5), none, none, true⟩, ⟨.move (.loc 0), none, (some 1), true⟩])
 (.ret)))))))))⟩
theorem v_batchbisect_prefix {F : Nat → Option RFunc} {me : Nat} (hF : F me = some (rf_batchbisect_prefix )) {fl : Nat} {H : Heap} {Q : AV → Heap → Prop} (k0 : Int)
  (h : ∃ (J1 : Nat → Int → AV → Heap → Prop) (k2 : Nat), J1 k2 0 .empty H ∧ (∀ (m3 : Nat) (v4 : Int) (out6 : AV) (H8 : Heap), J1 m3 v4 out6 H8 → ((v4 < k0) → ∀ (b9 : Nat) (H10 : Heap), NewB H8 1 [(.int .i64 v4)] b9 H10 → ∃ (a11 : AV) (H12 : Heap), appA fl true 1 8 H10 out6 (.slice b9 0 1 (some 1)) = some (a11, H12) ∧ ∃ m13 : Nat, m13 < m3 ∧ J1 m13 (IntKind.wrap .i64 (v4 + 1)) a11 H12) ∧ (¬(v4 < k0) → Q out6 H8))) : Ret F fl me [(.int .i64 k0)] H Q := by
  refine ret_intro hF rfl ?_
  refine w_seq ?_
  refine w_run [0] ?_
  refine t_done [(.int .i64 k0), .empty, .undef, .undef, .undef, .undef, .undef] H (by kernel_rfl) ?_
  refine then_norm ?_
  refine w_seq ?_
  refine w_run [0] ?_
  refine t_done [(.int .i64 k0), .empty, .undef, .undef, .undef, .empty, .undef] H (by kernel_rfl) ?_
  refine then_norm ?_
  refine w_seq ?_
  refine w_seq ?_
  refine w_run [0, 0] ?_
  refine t_done [(.int .i64 k0), .empty, (.int .i64 0), (.int .i64 k0), .undef, .empty, .undef] H (by kernel_rfl) ?_
  refine then_norm ?_
  refine w_block ?_
  obtain ⟨J1, k2, h0, h⟩ := h
  refine w_loop (I := fun mI EI HI => ∃ (v4 : Int) (d5 : AV) (out6 : AV) (d7 : AV), EI = [(.int .i64 k0), .empty, (.int .i64 v4), (.int .i64 k0), d5, out6, d7] ∧ J1 mI v4 out6 HI) ?_ k2 ⟨_, _, _, _, rfl, h0⟩
  clear h0
  rintro m3 EI H8 ⟨v4, d5, out6, d7, rfl, hJ⟩
  replace h := h m3 v4 out6 H8 hJ
  clear hJ
  refine w_seq ?_
  refine w_run [0] ?_
  refine t_done [(.int .i64 k0), .empty, (.int .i64 v4), (.int .i64 k0), (.bool (decide (v4 < k0))), out6, d7] H8 (by kernel_rfl) ?_
  refine then_norm ?_
  refine w_seq ?_
  refine w_cond (t := (decide (v4 < k0))) rfl (fun hc => ?_) (fun hc => ?_)
  · replace h := h.1 (is_dec.t hc)
    refine w_skip ?_
    refine then_norm ?_
    refine w_seq ?_
    refine w_block ?_
    refine w_seq ?_
    refine w_run [0, 0] ?_
    refine t_done [(.int .i64 k0), .empty, (.int .i64 v4), (.int .i64 k0), (.bool (decide (v4 < k0))), out6, (.int .i64 v4)] H8 (by kernel_rfl) ?_
    refine then_norm ?_
    refine w_run [0, 0, 1, 1, 0] ?_
    obtain ⟨b9, H10, hb⟩ : ∃ b H', NewB H8 1 [(.int .i64 v4)] b H' := ⟨_, _, rfl, rfl⟩
    replace h := h b9 H10 hb
    refine t_bs true 1 [(.int .i64 0)] [(0, 1, .loc 0)] 1 [(.int .i64 v4)] [(.int .i64 v4)] b9 H10 H8 (by kernel_rfl) (fill_c (vs := [(.int .i64 v4)]) (size := 1) rfl (by kernel_rfl) (by kernel_rfl) (by kernel_rfl)) hb ?_
    obtain ⟨a11, H12, ha, h⟩ := h
    refine t_app true 1 8 out6 (.slice b9 0 1 (some 1)) a11 H12 H10 (by kernel_rfl) ha ?_
    refine t_done [(.int .i64 k0), .empty, (.int .i64 v4), (.int .i64 k0), (.bool (decide (v4 < k0))), a11, (.int .i64 v4)] H12 (by kernel_rfl) ?_
    refine block_norm ?_
    refine then_norm ?_
    refine w_run [0, 0] ?_
    refine t_done [(.int .i64 k0), .empty, (.int .i64 (IntKind.wrap .i64 (v4 + 1))), (.int .i64 k0), (.bool (decide (v4 < k0))), a11, (.int .i64 v4)] H12 (by kernel_rfl) ?_
    obtain ⟨m', hm, h⟩ := h
    refine loop_norm ⟨m', hm, _, _, _, _, rfl, h⟩
  · replace h := h.2 (is_dec.f hc)
    refine w_exit ?_
    refine then_exit ?_
    refine loop_exit ?_
    refine block_exit ?_
    refine then_norm ?_
    refine w_seq ?_
    refine w_run [0, 0] ?_
    refine t_done [(.int .i64 k0), out6, (.int .i64 v4), (.int .i64 k0), (.bool (decide (v4 < k0))), out6, d7] H8 (by kernel_rfl) ?_
    refine then_norm ?_
    refine w_ret ?_
    exact body_ret (vs := [out6]) _ (by kernel_rfl) rfl h

-- batchbisect_search
def rf_batchbisect_search : RFunc := ⟨2, 10, [.var 2, .var 3],
 ((.seq (.ops [⟨.move (.k (.int .i64 0)), none, (some 2), true⟩, ⟨.move (.k (.empty)), none, (some 3), true⟩])
 ((.seq (.ops [⟨.move (.var 0), none, none, true⟩, ⟨.move (.k (.int .i64 0)), none, (some 5), true⟩, ⟨.move (.loc 0), none, (some 4), true⟩])
 ((.seq (.ops [⟨.move (.k (.empty)), none, (some 7), true⟩])
 ((.seq (.block 0 (.loop ((.seq ((.seq (.ops [⟨.move (.var 4), none, none, true⟩, ⟨.move (.var 5), none, none, true⟩, ⟨.bin .sub .no (.loc 0) (.loc 1), none, none, true⟩, ⟨.bin .gtr .no (.loc 2) (.k (.int .i64 1)), none, (some 6), true⟩])
 (.cond (.var 6) (.skip) (.exit 0))))
 (.block 1 ((.seq (.ops [⟨.move (.var 5), none, none, true⟩, ⟨.move (.var 4), none, none, true⟩, ⟨.bin .add .no (.loc 0) (.loc 1), none, none, true⟩, ⟨.bin .quo .no (.loc 2) (.k (.int .i64 2)), none, none, true⟩, ⟨.move (.loc 3), none, (some 8), true⟩])
 ((.seq (.ops [⟨.move (.var 7), none, none, true⟩, ⟨.move (.var 8), none, none, true⟩, ⟨.buildSlice 1 [.int .i64 0] [(0, 1, (.loc 1))] 1, none, none, true⟩, ⟨.append 1 8 (.loc 0) (.loc 2), none, none, true⟩, ⟨.move (.loc 3), none, (some 7), true⟩])
 ((.seq (.ops [⟨.move (.var 1), none, none, true⟩, ⟨.move (.var 8), none, none, true⟩, ⟨.call (.loc 0) [(.loc 1)], none, (some 9), true⟩])
 (.cond (.var 9) (.ops [⟨.move (.var 8), none, none, true⟩, ⟨.move (.loc 0), none, (some 4), true⟩]) (.ops [⟨.move (.var 8), none, none, true⟩, ⟨.move (.loc 0), none, (some 5), true⟩])))))))))))))
 ((.seq (.ops [⟨.move (.var 4), none, none, true⟩, ⟨.move (.var 7), none, none, true⟩, ⟨.move (.loc 0), none, (some 2), true⟩, ⟨.move (.loc 1), none, (some 3), true⟩])
 (.ret)))))))))))⟩
theorem v_batchbisect_search {F : Nat → Option RFunc} {me : Nat} (hF : F me = some (rf_batchbisect_search )) {fl : Nat} {H : Heap} {Q : AV → Heap → Prop} (n0 : Int) (failsg1 : Nat) (failsc2 : List AV)
  (h : ∃ (J3 : Nat → Int → Int → AV → Heap → Prop) (k4 : Nat), J3 k4 n0 0 .empty H ∧ (∀ (m5 : Nat) (high6 : Int) (low7 : Int) (tested9 : AV) (H12 : Heap), J3 m5 high6 low7 tested9 H12 → (((IntKind.wrap .i64 (high6 - low7)) > 1) → ∀ (b13 : Nat) (H14 : Heap), NewB H12 1 [(.int .i64 (IntKind.wrap .i64 (Int.tdiv (IntKind.wrap .i64 (low7 + high6)) 2)))] b13 H14 → ∃ (a15 : AV) (H16 : Heap), appA fl true 1 8 H14 tested9 (.slice b13 0 1 (some 1)) = some (a15, H16) ∧ Ret F fl failsg1 (([(.int .i64 (IntKind.wrap .i64 (Int.tdiv (IntKind.wrap .i64 (low7 + high6)) 2)))] : List AV) ++ failsc2) H16 (fun v19 H18 => ∃ (r17 : Bool), v19 = (.bool r17) ∧ ((r17 = true) → ∃ m20 : Nat, m20 < m5 ∧ J3 m20 (IntKind.wrap .i64 (Int.tdiv (IntKind.wrap .i64 (low7 + high6)) 2)) low7 a15 H18) ∧ (¬(r17 = true) → ∃ m21 : Nat, m21 < m5 ∧ J3 m21 high6 (IntKind.wrap .i64 (Int.tdiv (IntKind.wrap .i64 (low7 + high6)) 2)) a15 H18))) ∧ (¬((IntKind.wrap .i64 (high6 - low7)) > 1) → Q (.tuple [(.int .i64 high6), tested9]) H12))) : Ret F fl me [(.int .i64 n0), (.func failsg1 failsc2)] H Q := by
  refine ret_intro hF rfl ?_
  refine w_seq ?_
  refine w_run [0, 0] ?_
  refine t_done [(.int .i64 n0), (.func failsg1 failsc2), (.int .i64 0), .empty, .undef, .undef, .undef, .undef, .undef, .undef] H (by kernel_rfl) ?_
  refine then_norm ?_
  refine w_seq ?_
  refine w_run [0, 0, 0] ?_
  refine t_done [(.int .i64 n0), (.func failsg1 failsc2), (.int .i64 0), .empty, (.int .i64 n0), (.int .i64 0), .undef, .undef, .undef, .undef] H (by kernel_rfl) ?_
  refine then_norm ?_
  refine w_seq ?_
  refine w_run [0] ?_
  refine t_done [(.int .i64 n0), (.func failsg1 failsc2), (.int .i64 0), .empty, (.int .i64 n0), (.int .i64 0), .undef, .empty, .undef, .undef] H (by kernel_rfl) ?_
  refine then_norm ?_
  refine w_seq ?_
  refine w_block ?_
  obtain ⟨J3, k4, h0, h⟩ := h
  refine w_loop (I := fun mI EI HI => ∃ (high6 : Int) (low7 : Int) (d8 : AV) (tested9 : AV) (d10 : AV) (d11 : AV), EI = [(.int .i64 n0), (.func failsg1 failsc2), (.int .i64 0), .empty, (.int .i64 high6), (.int .i64 low7), d8, tested9, d10, d11] ∧ J3 mI high6 low7 tested9 HI) ?_ k4 ⟨_, _, _, _, _, _, rfl, h0⟩
  clear h0
  rintro m5 EI H12 ⟨high6, low7, d8, tested9, d10, d11, rfl, hJ⟩
  replace h := h m5 high6 low7 tested9 H12 hJ
  clear hJ
  refine w_seq ?_
  refine w_seq ?_
  refine w_run [0, 0, 0, 0] ?_
  refine t_done [(.int .i64 n0), (.func failsg1 failsc2), (.int .i64 0), .empty, (.int .i64 high6), (.int .i64 low7), (.bool (decide ((IntKind.wrap .i64 (high6 - low7)) > 1))), tested9, d10, d11] H12 (by kernel_rfl) ?_
  refine then_norm ?_
  refine w_cond (t := (decide ((IntKind.wrap .i64 (high6 - low7)) > 1))) rfl (fun hc => ?_) (fun hc => ?_)
  · replace h := h.1 (is_dec.t hc)
    refine w_skip ?_
    refine then_norm ?_
    refine w_block ?_
    refine w_seq ?_
    refine w_run [0, 0, 0, 1, 0] ?_
    refine t_quo true .no .i64 (IntKind.wrap .i64 (low7 + high6)) 2 H12 (by kernel_rfl) (by decide) ?_
    refine t_done [(.int .i64 n0), (.func failsg1 failsc2), (.int .i64 0), .empty, (.int .i64 high6), (.int .i64 low7), (.bool (decide ((IntKind.wrap .i64 (high6 - low7)) > 1))), tested9, (.int .i64 (IntKind.wrap .i64 (Int.tdiv (IntKind.wrap .i64 (low7 + high6)) 2))), d11] H12 (by kernel_rfl) ?_
    refine then_norm ?_
    refine w_seq ?_
    refine w_run [0, 0, 1, 1, 0] ?_
    obtain ⟨b13, H14, hb⟩ : ∃ b H', NewB H12 1 [(.int .i64 (IntKind.wrap .i64 (Int.tdiv (IntKind.wrap .i64 (low7 + high6)) 2)))] b H' := ⟨_, _, rfl, rfl⟩
    replace h := h b13 H14 hb
    refine t_bs true 1 [(.int .i64 0)] [(0, 1, .loc 0)] 1 [(.int .i64 (IntKind.wrap .i64 (Int.tdiv (IntKind.wrap .i64 (low7 + high6)) 2)))] [(.int .i64 (IntKind.wrap .i64 (Int.tdiv (IntKind.wrap .i64 (low7 + high6)) 2)))] b13 H14 H12 (by kernel_rfl) (fill_c (vs := [(.int .i64 (IntKind.wrap .i64 (Int.tdiv (IntKind.wrap .i64 (low7 + high6)) 2)))]) (size := 1) rfl (by kernel_rfl) (by kernel_rfl) (by kernel_rfl)) hb ?_
    obtain ⟨a15, H16, ha, h⟩ := h
    refine t_app true 1 8 tested9 (.slice b13 0 1 (some 1)) a15 H16 H14 (by kernel_rfl) ha ?_
    refine t_done [(.int .i64 n0), (.func failsg1 failsc2), (.int .i64 0), .empty, (.int .i64 high6), (.int .i64 low7), (.bool (decide ((IntKind.wrap .i64 (high6 - low7)) > 1))), a15, (.int .i64 (IntKind.wrap .i64 (Int.tdiv (IntKind.wrap .i64 (low7 + high6)) 2))), d11] H16 (by kernel_rfl) ?_
    refine then_norm ?_
    refine w_seq ?_
    refine w_run [0, 0, 1] ?_
    refine t_call true failsg1 (([(.int .i64 (IntKind.wrap .i64 (Int.tdiv (IntKind.wrap .i64 (low7 + high6)) 2)))] : List AV) ++ failsc2) H16 (by kernel_rfl) h ?_
    clear h
    rintro _ H18 ⟨r17, rfl, h⟩
    refine t_done [(.int .i64 n0), (.func failsg1 failsc2), (.int .i64 0), .empty, (.int .i64 high6), (.int .i64 low7), (.bool (decide ((IntKind.wrap .i64 (high6 - low7)) > 1))), a15, (.int .i64 (IntKind.wrap .i64 (Int.tdiv (IntKind.wrap .i64 (low7 + high6)) 2))), (.bool r17)] H18 (by kernel_rfl) ?_
    refine then_norm ?_
    refine w_cond (t := r17) rfl (fun hc => ?_) (fun hc => ?_)
    · replace h := h.1 (is_raw.t hc)
      refine w_run [0, 0] ?_
      refine t_done [(.int .i64 n0), (.func failsg1 failsc2), (.int .i64 0), .empty, (.int .i64 (IntKind.wrap .i64 (Int.tdiv (IntKind.wrap .i64 (low7 + high6)) 2))), (.int .i64 low7), (.bool (decide ((IntKind.wrap .i64 (high6 - low7)) > 1))), a15, (.int .i64 (IntKind.wrap .i64 (Int.tdiv (IntKind.wrap .i64 (low7 + high6)) 2))), (.bool r17)] H18 (by kernel_rfl) ?_
      refine block_norm ?_
      obtain ⟨m', hm, h⟩ := h
      refine loop_norm ⟨m', hm, _, _, _, _, _, _, rfl, h⟩
    · replace h := h.2 (is_raw.f hc)
      refine w_run [0, 0] ?_
      refine t_done [(.int .i64 n0), (.func failsg1 failsc2), (.int .i64 0), .empty, (.int .i64 high6), (.int .i64 (IntKind.wrap .i64 (Int.tdiv (IntKind.wrap .i64 (low7 + high6)) 2))), (.bool (decide ((IntKind.wrap .i64 (high6 - low7)) > 1))), a15, (.int .i64 (IntKind.wrap .i64 (Int.tdiv (IntKind.wrap .i64 (low7 + high6)) 2))), (.bool r17)] H18 (by kernel_rfl) ?_
      refine block_norm ?_
      obtain ⟨m', hm, h⟩ := h
      refine loop_norm ⟨m', hm, _, _, _, _, _, _, rfl, h⟩
  · replace h := h.2 (is_dec.f hc)
    refine w_exit ?_
    refine then_exit ?_
    refine loop_exit ?_
    refine block_exit ?_
    refine then_norm ?_
    refine w_seq ?_
    refine w_run [0, 0, 0, 0] ?_
    refine t_done [(.int .i64 n0), (.func failsg1 failsc2), (.int .i64 high6), tested9, (.int .i64 high6), (.int .i64 low7), (.bool (decide ((IntKind.wrap .i64 (high6 - low7)) > 1))), tested9, d10, d11] H12 (by kernel_rfl) ?_
    refine then_norm ?_
    refine w_ret ?_
    exact body_ret (vs := [(.int .i64 high6), tested9]) _ (by kernel_rfl) rfl h

-- batchbisect_Failingx1
def rf_batchbisect_Failingx1 (nbatchbisect_Failingx1x1 nslices_ContainsFunc__int_int : Nat) : RFunc := ⟨2, 3, [.var 2],
 ((.seq (.ops [⟨.move (.k (.bool false)), none, (some 2), true⟩])
 ((.seq (.ops [⟨.move (.var 0), none, none, true⟩, ⟨.makeFunc nbatchbisect_Failingx1x1 [(.var 1)], none, none, true⟩, ⟨.callS nslices_ContainsFunc__int_int [(.loc 0), (.loc 1)], none, none, true⟩, ⟨.un .not (.loc 2), none, none, true⟩, ⟨.move (.loc 3), none, (some 2), true⟩])
 (.ret)))))⟩
theorem v_batchbisect_Failingx1 {F : Nat → Option RFunc} {me nbatchbisect_Failingx1x1 nslices_ContainsFunc__int_int : Nat} (hF : F me = some (rf_batchbisect_Failingx1 nbatchbisect_Failingx1x1 nslices_ContainsFunc__int_int)) {fl : Nat} {H : Heap} {Q : AV → Heap → Prop} (c0 : AV) (cap1 : AV)
  (h : Ret F fl nslices_ContainsFunc__int_int [c0, (.func nbatchbisect_Failingx1x1 [cap1])] H (fun v4 H3 => ∃ (r2 : Bool), v4 = (.bool r2) ∧ Q (.bool (!r2)) H3)) : Ret F fl me [c0, cap1] H Q := by
  refine ret_intro hF rfl ?_
  refine w_seq ?_
  refine w_run [0] ?_
  refine t_done [c0, cap1, (.bool false)] H (by kernel_rfl) ?_
  refine then_norm ?_
  refine w_seq ?_
  refine w_run [0, 0, 1, 0, 0] ?_
  refine t_call true nslices_ContainsFunc__int_int [c0, (.func nbatchbisect_Failingx1x1 [cap1])] H (by kernel_rfl) h ?_
  clear h
  rintro _ H3 ⟨r2, rfl, h⟩
  refine t_done [c0, cap1, (.bool (!r2))] H3 (by kernel_rfl) ?_
  refine then_norm ?_
  refine w_ret ?_
  exact body_ret (vs := [(.bool (!r2))]) _ (by kernel_rfl) rfl h

-- batchbisect_Failingx1x1
def rf_batchbisect_Failingx1x1 (nslices_Contains__int_int : Nat) : RFunc := ⟨2, 3, [.var 2],
 ((.seq (.ops [⟨.move (.k (.bool false)), none, (some 2), true⟩])
 ((.seq (.ops [⟨.load none (.var 1), none, none, true⟩, ⟨.move (.var 0), none, none, true⟩, ⟨.callS nslices_Contains__int_int [(.loc 0), (.loc 1)], none, none, true⟩, ⟨.un .not (.loc 2), none, none, true⟩, ⟨.move (.loc 3), none, (some 2), true⟩])
 (.ret)))))⟩
theorem v_batchbisect_Failingx1x1 {F : Nat → Option RFunc} {me nslices_Contains__int_int : Nat} (hF : F me = some (rf_batchbisect_Failingx1x1 nslices_Contains__int_int)) {fl : Nat} {H : Heap} {Q : AV → Heap → Prop} (x0 : Int) (cap1 : AV)
  (h : ∃ (b2 : Nat) (o3 : Nat), cap1 = .ptr b2 o3 ∧ ∃ (e4 : AV), rload H none b2 o3 = some e4 ∧ Ret F fl nslices_Contains__int_int [e4, (.int .i64 x0)] H (fun v7 H6 => ∃ (r5 : Bool), v7 = (.bool r5) ∧ Q (.bool (!r5)) H6)) : Ret F fl me [(.int .i64 x0), cap1] H Q := by
  refine ret_intro hF rfl ?_
  refine w_seq ?_
  refine w_run [0] ?_
  refine t_done [(.int .i64 x0), cap1, (.bool false)] H (by kernel_rfl) ?_
  refine then_norm ?_
  refine w_seq ?_
  refine w_run [1, 0, 1, 0, 0] ?_
  obtain ⟨b2, o3, rfl, e4, hl, h⟩ := h
  refine t_load true none b2 o3 e4 H (by kernel_rfl) hl ?_
  refine t_call true nslices_Contains__int_int [e4, (.int .i64 x0)] H (by kernel_rfl) h ?_
  clear h
  rintro _ H6 ⟨r5, rfl, h⟩
  refine t_done [(.int .i64 x0), (.ptr b2 o3), (.bool (!r5))] H6 (by kernel_rfl) ?_
  refine then_norm ?_
  refine w_ret ?_
  exact body_ret (vs := [(.bool (!r5))]) _ (by kernel_rfl) rfl h

-- batchbisect_Firstx1
def rf_batchbisect_Firstx1 (nbatchbisect_prefix nbatchbisect_Failing : Nat) : RFunc := ⟨2, 3, [.var 2],
 ((.seq (.ops [⟨.move (.k (.bool false)), none, (some 2), true⟩])
 ((.seq (.ops [⟨.load none (.var 1), none, none, false⟩, ⟨.move (.var 0), none, none, false⟩, ⟨.callS nbatchbisect_prefix [(.loc 1)], none, none, false⟩, ⟨.callS nbatchbisect_Failing [(.loc 0), (.loc 2)], none, none, true⟩, ⟨.move (.loc 3), none, (some 2), true⟩])
 (.ret)))))⟩
theorem v_batchbisect_Firstx1 {F : Nat → Option RFunc} {me nbatchbisect_prefix nbatchbisect_Failing : Nat} (hF : F me = some (rf_batchbisect_Firstx1 nbatchbisect_prefix nbatchbisect_Failing)) {fl : Nat} {H : Heap} {Q : AV → Heap → Prop} (k0 : Int) (cap1 : AV)
  (h : ∃ (b2 : Nat) (o3 : Nat), cap1 = .ptr b2 o3 ∧ ∃ (e4 : AV), rload H none b2 o3 = some e4 ∧ Ret F H.length nbatchbisect_prefix [(.int .i64 k0)] H (fun r5 H6 => Ret F fl nbatchbisect_Failing [e4, r5] H6 (fun v10 H9 => ∃ (r8 : Bool), v10 = (.bool r8) ∧ Q (.bool r8) H9))) : Ret F fl me [(.int .i64 k0), cap1] H Q := by
  refine ret_intro hF rfl ?_
  refine w_seq ?_
  refine w_run [0] ?_
  refine t_done [(.int .i64 k0), cap1, (.bool false)] H (by kernel_rfl) ?_
  refine then_norm ?_
  refine w_seq ?_
  refine w_run [1, 0, 1, 1, 0] ?_
  obtain ⟨b2, o3, rfl, e4, hl, h⟩ := h
  refine t_load false none b2 o3 e4 H (by kernel_rfl) hl ?_
  refine t_call false nbatchbisect_prefix [(.int .i64 k0)] H (by kernel_rfl) h ?_
  clear h
  rintro r5 H6 h
  refine t_call true nbatchbisect_Failing [e4, r5] H6 (by kernel_rfl) h ?_
  clear h
  rintro _ H9 ⟨r8, rfl, h⟩
  refine t_done [(.int .i64 k0), (.ptr b2 o3), (.bool r8)] H9 (by kernel_rfl) ?_
  refine then_norm ?_
  refine w_ret ?_
  exact body_ret (vs := [(.bool r8)]) _ (by kernel_rfl) rfl h

-- batchbisect_Minimalx1
def rf_batchbisect_Minimalx1 (nbatchbisect_prefix nbatchbisect_Failing : Nat) : RFunc := ⟨3, 4, [.var 3],
 ((.seq (.ops [⟨.move (.k (.bool false)), none, (some 3), true⟩])
 ((.seq (.ops [⟨.load none (.var 1), none, none, false⟩, ⟨.move (.var 0), none, none, false⟩, ⟨.callS nbatchbisect_prefix [(.loc 1)], none, none, false⟩, ⟨.load none (.var 2), none, none, false⟩, ⟨.append 1 8 (.loc 2) (.loc 3), none, none, false⟩, ⟨.callS nbatchbisect_Failing [(.loc 0), (.loc 4)], none, none, true⟩, ⟨.move (.loc 5), none, (some 3), true⟩])
 (.ret)))))⟩
theorem v_batchbisect_Minimalx1 {F : Nat → Option RFunc} {me nbatchbisect_prefix nbatchbisect_Failing : Nat} (hF : F me = some (rf_batchbisect_Minimalx1 nbatchbisect_prefix nbatchbisect_Failing)) {fl : Nat} {H : Heap} {Q : AV → Heap → Prop} (k0 : Int) (cap1 : AV) (cap2 : AV)
  (h : ∃ (b3 : Nat) (o4 : Nat), cap1 = .ptr b3 o4 ∧ ∃ (e5 : AV), rload H none b3 o4 = some e5 ∧ Ret F H.length nbatchbisect_prefix [(.int .i64 k0)] H (fun r6 H7 => ∃ (b9 : Nat) (o10 : Nat), cap2 = .ptr b9 o10 ∧ ∃ (e11 : AV), rload H7 none b9 o10 = some e11 ∧ ∃ (a12 : AV) (H13 : Heap), appA fl false 1 8 H7 r6 e11 = some (a12, H13) ∧ Ret F fl nbatchbisect_Failing [e5, a12] H13 (fun v16 H15 => ∃ (r14 : Bool), v16 = (.bool r14) ∧ Q (.bool r14) H15))) : Ret F fl me [(.int .i64 k0), cap1, cap2] H Q := by
  refine ret_intro hF rfl ?_
  refine w_seq ?_
  refine w_run [0] ?_
  refine t_done [(.int .i64 k0), cap1, cap2, (.bool false)] H (by kernel_rfl) ?_
  refine then_norm ?_
  refine w_seq ?_
  refine w_run [1, 0, 1, 1, 1, 1, 0] ?_
  obtain ⟨b3, o4, rfl, e5, hl, h⟩ := h
  refine t_load false none b3 o4 e5 H (by kernel_rfl) hl ?_
  refine t_call false nbatchbisect_prefix [(.int .i64 k0)] H (by kernel_rfl) h ?_
  clear h
  rintro r6 H7 h
  obtain ⟨b9, o10, rfl, e11, hl, h⟩ := h
  refine t_load false none b9 o10 e11 H7 (by kernel_rfl) hl ?_
  obtain ⟨a12, H13, ha, h⟩ := h
  refine t_app false 1 8 r6 e11 a12 H13 H7 (by kernel_rfl) ha ?_
  refine t_call true nbatchbisect_Failing [e5, a12] H13 (by kernel_rfl) h ?_
  clear h
  rintro _ H15 ⟨r14, rfl, h⟩
  refine t_done [(.int .i64 k0), (.ptr b3 o4), (.ptr b9 o10), (.bool r14)] H15 (by kernel_rfl) ?_
  refine then_norm ?_
  refine w_ret ?_
  exact body_ret (vs := [(.bool r14)]) _ (by kernel_rfl) rfl h

-- batchbisect_Validate
def rf_batchbisect_Validate (nbatchbisect_setCode : Nat) : RFunc := ⟨2, 14, [.part 2 (some 2)],
 ((.seq (.ops [⟨.tomb 1 (.k (.agg [.int .i64 0, .int .i64 0])), none, (some 2), true⟩])
 ((.seq (.block 0 ((.seq (.ops [⟨.move (.var 0), none, none, true⟩, ⟨.bin .lss .no (.loc 0) (.k (.int .i64 0)), none, none, true⟩, ⟨.move (.loc 1), none, none, true⟩, ⟨.move (.var 0), none, none, true⟩, ⟨.bin .gtr .no (.loc 3) (.k (.int .i64 16)), none, none, true⟩, ⟨.pick (.loc 2) (.k (.bool true)) (.loc 4), none, none, true⟩, ⟨.move (.loc 5), none, (some 3), true⟩])
 (.cond (.var 3) ((.seq (.ops [⟨.build [.int .i64 0, .int .i64 0] [(0, 1, (.k (.int .i64 3))), (1, 1, (.k (.int .i64 (-1))))], none, none, true⟩, ⟨.upd 2 0 (.var 2) (.loc 0), none, (some 2), true⟩])
 (.ret))) ((.seq (.ops [⟨.move (.var 1), none, none, true⟩, ⟨.len (.loc 0), none, none, true⟩, ⟨.bin .gtr .no (.loc 1) (.k (.int .i64 8)), none, none, true⟩, ⟨.move (.loc 2), none, (some 4), true⟩])
 (.cond (.var 4) ((.seq (.ops [⟨.build [.int .i64 0, .int .i64 0] [(0, 1, (.k (.int .i64 2))), (1, 1, (.k (.int .i64 (-1))))], none, none, true⟩, ⟨.upd 2 0 (.var 2) (.loc 0), none, (some 2), true⟩])
 (.ret))) (.skip))))))))
 ((.seq ((.seq (.ops [⟨.move (.var 1), none, (some 8), true⟩, ⟨.len (.loc 0), none, (some 6), true⟩, ⟨.move (.k (.int .i64 0)), none, (some 5), true⟩])
 (.block 1 (.loop ((.seq (.ops [⟨.bin .lss .no (.var 5) (.var 6), none, (some 7), true⟩])
 ((.seq (.cond (.var 7) (.skip) (.exit 1))
 ((.seq (.block 2 ((.seq (.ops [⟨.move (.var 5), none, none, true⟩, ⟨.indexAddr 1 (.var 8) (.var 5), none, none, true⟩, ⟨.load none (.loc 1), none, none, true⟩, ⟨.move (.loc 0), none, (some 11), true⟩, ⟨.move (.loc 2), none, (some 9), true⟩])
 ((.seq ((.seq (.ops [⟨.move (.var 9), none, none, true⟩, ⟨.len (.loc 0), none, none, true⟩, ⟨.bin .eql .no (.loc 1) (.k (.int .i64 0)), none, (some 10), true⟩])
 (.cond (.var 10) ((.seq (.ops [⟨.move (.var 11), none, none, true⟩, ⟨.build [.int .i64 0, .int .i64 0] [(0, 1, (.k (.int .i64 9))), (1, 1, (.loc 0))], none, none, true⟩, ⟨.upd 2 0 (.var 2) (.loc 1), none, (some 2), true⟩])
 (.ret))) (.skip))))
 ((.seq (.ops [⟨.move (.var 0), none, none, true⟩, ⟨.move (.var 9), none, none, true⟩, ⟨.callS nbatchbisect_setCode [(.loc 0), (.loc 1)], none, none, true⟩, ⟨.move (.loc 2), none, (some 12), true⟩])
 ((.seq (.ops [⟨.move (.var 12), none, none, true⟩, ⟨.bin .neq .no (.loc 0) (.k (.int .i64 0)), none, (some 13), true⟩])
 (.cond (.var 13) ((.seq (.ops [⟨.move (.var 12), none, none, true⟩, ⟨.move (.var 11), none, none, true⟩, ⟨.build [.int .i64 0, .int .i64 0] [(0, 1, (.loc 0)), (1, 1, (.loc 1))], none, none, true⟩, ⟨.upd 2 0 (.var 2) (.loc 2), none, (some 2), true⟩])
 (.ret))) (.skip)))))))))))
 (.ops [⟨.bin .add .no (.var 5) (.k (.int .i64 1)), none, none, true⟩, ⟨.move (.loc 0), none, (some 5), true⟩])))))))))))
 ((.seq (.ops [⟨.build [.int .i64 0, .int .i64 0] [], none, none, true⟩, ⟨.upd 2 0 (.var 2) (.loc 0), none, (some 2), true⟩])
 (.ret)))))))))⟩
theorem v_batchbisect_Validate {F : Nat → Option RFunc} {me nbatchbisect_setCode : Nat} (hF : F me = some (rf_batchbisect_Validate nbatchbisect_setCode)) {fl : Nat} {H : Heap} {Q : AV → Heap → Prop} (n0 : Int) (culprits1 : AV)
  (h : ∀ (H2 : Heap), Dead1 H 1 H2 → ((((n0 < 0) ∨ (n0 > 16))) → Q (.agg [(.int .i64 3), (.int .i64 (-1))]) H2) ∧ (¬(((n0 < 0) ∨ (n0 > 16))) → ∃ len3 : Nat, lenA culprits1 = some len3 ∧ (((len3 : Int) > 8) → Q (.agg [(.int .i64 2), (.int .i64 (-1))]) H2) ∧ (¬((len3 : Int) > 8) → ∃ len4 : Nat, lenA culprits1 = some len4 ∧ ∃ (J5 : Nat → Int → Int → Int → Heap → Prop) (k6 : Nat), J5 k6 0 0 0 H2 ∧ (∀ (m7 : Nat) (v8 : Int) (v9 : Int) (v10 : Int) (H17 : Heap), J5 m7 v8 v9 v10 H17 → ((v10 < (len4 : Int)) → ∃ (e18 : AV), getA H17 1 none culprits1 v10 0 = some e18 ∧ ∃ len20 : Nat, lenA e18 = some len20 ∧ (((len20 : Int) = 0) → Q (.agg [(.int .i64 9), (.int .i64 v10)]) H17) ∧ (¬((len20 : Int) = 0) → Ret F fl nbatchbisect_setCode [(.int .i64 n0), e18] H17 (fun v23 H22 => ∃ (r21 : Int), v23 = (.int .i64 r21) ∧ ((r21 ≠ 0) → Q (.agg [(.int .i64 r21), (.int .i64 v10)]) H22) ∧ (¬(r21 ≠ 0) → ∃ m24 : Nat, m24 < m7 ∧ J5 m24 v8 v9 (IntKind.wrap .i64 (v10 + 1)) H22)))) ∧ (¬(v10 < (len4 : Int)) → Q (.agg [(.int .i64 0), (.int .i64 0)]) H17))))) : Ret F fl me [(.int .i64 n0), culprits1] H Q := by
  refine ret_intro hF rfl ?_
  refine w_seq ?_
  refine w_run [1] ?_
  obtain ⟨H2, hb⟩ : ∃ H', Dead1 H 1 H' := ⟨_, ⟨rfl⟩⟩
  replace h := h H2 hb
  refine t_tomb true 1 (.agg [(.int .i64 0), (.int .i64 0)]) [(.int .i64 0), (.int .i64 0)] H2 H (by kernel_rfl) rfl hb ?_
  refine t_done [(.int .i64 n0), culprits1, (.agg [(.int .i64 0), (.int .i64 0)]), .undef, .undef, .undef, .undef, .undef, .undef, .undef, .undef, .undef, .undef, .undef] H2 (by kernel_rfl) ?_
  refine then_norm ?_
  refine w_seq ?_
  refine w_block ?_
  refine w_seq ?_
  refine w_run [0, 0, 0, 0, 0, 0, 0] ?_
  refine t_done [(.int .i64 n0), culprits1, (.agg [(.int .i64 0), (.int .i64 0)]), (.bool ((decide (n0 < 0)) || (decide (n0 > 16)))), .undef, .undef, .undef, .undef, .undef, .undef, .undef, .undef, .undef, .undef] H2 (by kernel_rfl) ?_
  refine then_norm ?_
  refine w_cond (t := ((decide (n0 < 0)) || (decide (n0 > 16)))) rfl (fun hc => ?_) (fun hc => ?_)
  · replace h := h.1 ((is_or is_dec is_dec).t hc)
    refine w_seq ?_
    refine w_run [1, 1] ?_
    refine t_build true [(.int .i64 0), (.int .i64 0)] [(0, 1, .loc 0), (1, 1, .loc 1)] [(.int .i64 3), (.int .i64 (-1))] [(.int .i64 3), (.int .i64 (-1))] H2 (by kernel_rfl) (fill_c (vs := [(.int .i64 3)]) (size := 1) rfl (by kernel_rfl) (by kernel_rfl) (fill_c (vs := [(.int .i64 (-1))]) (size := 1) rfl (by kernel_rfl) (by kernel_rfl) (by kernel_rfl))) ?_
    refine t_upd true 2 0 [(.int .i64 0), (.int .i64 0)] (.agg [(.int .i64 3), (.int .i64 (-1))]) [(.int .i64 3), (.int .i64 (-1))] [(.int .i64 3), (.int .i64 (-1))] H2 (by kernel_rfl) rfl (all_c rfl (all_c rfl all_n)) ⟨rfl, Nat.le_of_ble_eq_true (by kernel_rfl), rfl⟩ ?_
    refine t_done [(.int .i64 n0), culprits1, (.agg [(.int .i64 3), (.int .i64 (-1))]), (.bool ((decide (n0 < 0)) || (decide (n0 > 16)))), .undef, .undef, .undef, .undef, .undef, .undef, .undef, .undef, .undef, .undef] H2 (by kernel_rfl) ?_
    refine then_norm ?_
    refine w_ret ?_
    refine block_ret ?_
    refine then_ret ?_
    exact body_ret (vs := [(.agg [(.int .i64 3), (.int .i64 (-1))])]) _ (by kernel_rfl) rfl h
  · replace h := h.2 ((is_or is_dec is_dec).f hc)
    refine w_seq ?_
    refine w_run [0, 1, 0, 0] ?_
    obtain ⟨len3, hl, h⟩ := h
    refine t_len true culprits1 len3 H2 (by kernel_rfl) hl ?_
    refine t_done [(.int .i64 n0), culprits1, (.agg [(.int .i64 0), (.int .i64 0)]), (.bool ((decide (n0 < 0)) || (decide (n0 > 16)))), (.bool (decide ((len3 : Int) > 8))), .undef, .undef, .undef, .undef, .undef, .undef, .undef, .undef, .undef] H2 (by kernel_rfl) ?_
    refine then_norm ?_
    refine w_cond (t := (decide ((len3 : Int) > 8))) rfl (fun hc => ?_) (fun hc => ?_)
    · replace h := h.1 (is_dec.t hc)
      refine w_seq ?_
      refine w_run [1, 1] ?_
      refine t_build true [(.int .i64 0), (.int .i64 0)] [(0, 1, .loc 0), (1, 1, .loc 1)] [(.int .i64 2), (.int .i64 (-1))] [(.int .i64 2), (.int .i64 (-1))] H2 (by kernel_rfl) (fill_c (vs := [(.int .i64 2)]) (size := 1) rfl (by kernel_rfl) (by kernel_rfl) (fill_c (vs := [(.int .i64 (-1))]) (size := 1) rfl (by kernel_rfl) (by kernel_rfl) (by kernel_rfl))) ?_
      refine t_upd true 2 0 [(.int .i64 0), (.int .i64 0)] (.agg [(.int .i64 2), (.int .i64 (-1))]) [(.int .i64 2), (.int .i64 (-1))] [(.int .i64 2), (.int .i64 (-1))] H2 (by kernel_rfl) rfl (all_c rfl (all_c rfl all_n)) ⟨rfl, Nat.le_of_ble_eq_true (by kernel_rfl), rfl⟩ ?_
      refine t_done [(.int .i64 n0), culprits1, (.agg [(.int .i64 2), (.int .i64 (-1))]), (.bool ((decide (n0 < 0)) || (decide (n0 > 16)))), (.bool (decide ((len3 : Int) > 8))), .undef, .undef, .undef, .undef, .undef, .undef, .undef, .undef, .undef] H2 (by kernel_rfl) ?_
      refine then_norm ?_
      refine w_ret ?_
      refine block_ret ?_
      refine then_ret ?_
      exact body_ret (vs := [(.agg [(.int .i64 2), (.int .i64 (-1))])]) _ (by kernel_rfl) rfl h
    · replace h := h.2 (is_dec.f hc)
      refine w_skip ?_
      refine block_norm ?_
      refine then_norm ?_
      refine w_seq ?_
      refine w_seq ?_
      refine w_run [0, 1, 0] ?_
      obtain ⟨len4, hl, h⟩ := h
      refine t_len true culprits1 len4 H2 (by kernel_rfl) hl ?_
      refine t_done [(.int .i64 n0), culprits1, (.agg [(.int .i64 0), (.int .i64 0)]), (.bool ((decide (n0 < 0)) || (decide (n0 > 16)))), (.bool (decide ((len3 : Int) > 8))), (.int .i64 0), (.int .i64 (len4 : Int)), .undef, culprits1, .undef, .undef, .undef, .undef, .undef] H2 (by kernel_rfl) ?_
      refine then_norm ?_
      refine w_block ?_
      obtain ⟨J5, k6, h0, h⟩ := h
      refine w_loop (I := fun mI EI HI => ∃ (v8 : Int) (v9 : Int) (v10 : Int) (d11 : AV) (d12 : AV) (d13 : AV) (d14 : AV) (d15 : AV) (d16 : AV), EI = [(.int .i64 n0), culprits1, (.agg [(.int .i64 v8), (.int .i64 v9)]), (.bool ((decide (n0 < 0)) || (decide (n0 > 16)))), (.bool (decide ((len3 : Int) > 8))), (.int .i64 v10), (.int .i64 (len4 : Int)), d11, culprits1, d12, d13, d14, d15, d16] ∧ J5 mI v8 v9 v10 HI) ?_ k6 ⟨_, _, _, _, _, _, _, _, _, rfl, h0⟩
      clear h0
      rintro m7 EI H17 ⟨v8, v9, v10, d11, d12, d13, d14, d15, d16, rfl, hJ⟩
      replace h := h m7 v8 v9 v10 H17 hJ
      clear hJ
      refine w_seq ?_
      refine w_run [0] ?_
      refine t_done [(.int .i64 n0), culprits1, (.agg [(.int .i64 v8), (.int .i64 v9)]), (.bool ((decide (n0 < 0)) || (decide (n0 > 16)))), (.bool (decide ((len3 : Int) > 8))), (.int .i64 v10), (.int .i64 (len4 : Int)), (.bool (decide (v10 < (len4 : Int)))), culprits1, d12, d13, d14, d15, d16] H17 (by kernel_rfl) ?_
      refine then_norm ?_
      refine w_seq ?_
      refine w_cond (t := (decide (v10 < (len4 : Int)))) rfl (fun hc => ?_) (fun hc => ?_)
      · replace h := h.1 (is_dec.t hc)
        refine w_skip ?_
        refine then_norm ?_
        refine w_seq ?_
        refine w_block ?_
        refine w_seq ?_
        refine w_run [0, 1, 1, 0, 0] ?_
        obtain ⟨e18, hg19, h⟩ := h
        refine t_idxG true 1 culprits1 .i64 v10 H17 (by kernel_rfl) hg19 ?_
        refine t_loadG true none 1 culprits1 v10 0 e18 H17 (by kernel_rfl) hg19 ?_
        refine t_done [(.int .i64 n0), culprits1, (.agg [(.int .i64 v8), (.int .i64 v9)]), (.bool ((decide (n0 < 0)) || (decide (n0 > 16)))), (.bool (decide ((len3 : Int) > 8))), (.int .i64 v10), (.int .i64 (len4 : Int)), (.bool (decide (v10 < (len4 : Int)))), culprits1, e18, d13, (.int .i64 v10), d15, d16] H17 (by kernel_rfl) ?_
        refine then_norm ?_
        refine w_seq ?_
        refine w_seq ?_
        refine w_run [0, 1, 0] ?_
        obtain ⟨len20, hl, h⟩ := h
        refine t_len true e18 len20 H17 (by kernel_rfl) hl ?_
        refine t_done [(.int .i64 n0), culprits1, (.agg [(.int .i64 v8), (.int .i64 v9)]), (.bool ((decide (n0 < 0)) || (decide (n0 > 16)))), (.bool (decide ((len3 : Int) > 8))), (.int .i64 v10), (.int .i64 (len4 : Int)), (.bool (decide (v10 < (len4 : Int)))), culprits1, e18, (.bool ((len20 : Int) == 0)), (.int .i64 v10), d15, d16] H17 (by kernel_rfl) ?_
        refine then_norm ?_
        refine w_cond (t := ((len20 : Int) == 0)) rfl (fun hc => ?_) (fun hc => ?_)
        · replace h := h.1 (is_eq.t hc)
          refine w_seq ?_
          refine w_run [0, 1, 1] ?_
          refine t_build true [(.int .i64 0), (.int .i64 0)] [(0, 1, .loc 0), (1, 1, .loc 1)] [(.int .i64 9), (.int .i64 v10)] [(.int .i64 9), (.int .i64 v10)] H17 (by kernel_rfl) (fill_c (vs := [(.int .i64 9)]) (size := 1) rfl (by kernel_rfl) (by kernel_rfl) (fill_c (vs := [(.int .i64 v10)]) (size := 1) rfl (by kernel_rfl) (by kernel_rfl) (by kernel_rfl))) ?_
          refine t_upd true 2 0 [(.int .i64 v8), (.int .i64 v9)] (.agg [(.int .i64 9), (.int .i64 v10)]) [(.int .i64 9), (.int .i64 v10)] [(.int .i64 9), (.int .i64 v10)] H17 (by kernel_rfl) rfl (all_c rfl (all_c rfl all_n)) ⟨rfl, Nat.le_of_ble_eq_true (by kernel_rfl), rfl⟩ ?_
          refine t_done [(.int .i64 n0), culprits1, (.agg [(.int .i64 9), (.int .i64 v10)]), (.bool ((decide (n0 < 0)) || (decide (n0 > 16)))), (.bool (decide ((len3 : Int) > 8))), (.int .i64 v10), (.int .i64 (len4 : Int)), (.bool (decide (v10 < (len4 : Int)))), culprits1, e18, (.bool ((len20 : Int) == 0)), (.int .i64 v10), d15, d16] H17 (by kernel_rfl) ?_
          refine then_norm ?_
          refine w_ret ?_
          refine then_ret ?_
          refine block_ret ?_
          refine then_ret ?_
          refine loop_ret ?_
          refine block_ret ?_
          refine then_ret ?_
          exact body_ret (vs := [(.agg [(.int .i64 9), (.int .i64 v10)])]) _ (by kernel_rfl) rfl h
        · replace h := h.2 (is_eq.f hc)
          refine w_skip ?_
          refine then_norm ?_
          refine w_seq ?_
          refine w_run [0, 0, 1, 0] ?_
          refine t_call true nbatchbisect_setCode [(.int .i64 n0), e18] H17 (by kernel_rfl) h ?_
          clear h
          rintro _ H22 ⟨r21, rfl, h⟩
          refine t_done [(.int .i64 n0), culprits1, (.agg [(.int .i64 v8), (.int .i64 v9)]), (.bool ((decide (n0 < 0)) || (decide (n0 > 16)))), (.bool (decide ((len3 : Int) > 8))), (.int .i64 v10), (.int .i64 (len4 : Int)), (.bool (decide (v10 < (len4 : Int)))), culprits1, e18, (.bool ((len20 : Int) == 0)), (.int .i64 v10), (.int .i64 r21), d16] H22 (by kernel_rfl) ?_
          refine then_norm ?_
          refine w_seq ?_
          refine w_run [0, 0] ?_
          refine t_done [(.int .i64 n0), culprits1, (.agg [(.int .i64 v8), (.int .i64 v9)]), (.bool ((decide (n0 < 0)) || (decide (n0 > 16)))), (.bool (decide ((len3 : Int) > 8))), (.int .i64 v10), (.int .i64 (len4 : Int)), (.bool (decide (v10 < (len4 : Int)))), culprits1, e18, (.bool ((len20 : Int) == 0)), (.int .i64 v10), (.int .i64 r21), (.bool (r21 != 0))] H22 (by kernel_rfl) ?_
          refine then_norm ?_
          refine w_cond (t := (r21 != 0)) rfl (fun hc => ?_) (fun hc => ?_)
          · replace h := h.1 (is_ne.t hc)
            refine w_seq ?_
            refine w_run [0, 0, 1, 1] ?_
            refine t_build true [(.int .i64 0), (.int .i64 0)] [(0, 1, .loc 0), (1, 1, .loc 1)] [(.int .i64 r21), (.int .i64 v10)] [(.int .i64 r21), (.int .i64 v10)] H22 (by kernel_rfl) (fill_c (vs := [(.int .i64 r21)]) (size := 1) rfl (by kernel_rfl) (by kernel_rfl) (fill_c (vs := [(.int .i64 v10)]) (size := 1) rfl (by kernel_rfl) (by kernel_rfl) (by kernel_rfl))) ?_
            refine t_upd true 2 0 [(.int .i64 v8), (.int .i64 v9)] (.agg [(.int .i64 r21), (.int .i64 v10)]) [(.int .i64 r21), (.int .i64 v10)] [(.int .i64 r21), (.int .i64 v10)] H22 (by kernel_rfl) rfl (all_c rfl (all_c rfl all_n)) ⟨rfl, Nat.le_of_ble_eq_true (by kernel_rfl), rfl⟩ ?_
            refine t_done [(.int .i64 n0), culprits1, (.agg [(.int .i64 r21), (.int .i64 v10)]), (.bool ((decide (n0 < 0)) || (decide (n0 > 16)))), (.bool (decide ((len3 : Int) > 8))), (.int .i64 v10), (.int .i64 (len4 : Int)), (.bool (decide (v10 < (len4 : Int)))), culprits1, e18, (.bool ((len20 : Int) == 0)), (.int .i64 v10), (.int .i64 r21), (.bool (r21 != 0))] H22 (by kernel_rfl) ?_
            refine then_norm ?_
            refine w_ret ?_
            refine block_ret ?_
            refine then_ret ?_
            refine loop_ret ?_
            refine block_ret ?_
            refine then_ret ?_
            exact body_ret (vs := [(.agg [(.int .i64 r21), (.int .i64 v10)])]) _ (by kernel_rfl) rfl h
          · replace h := h.2 (is_ne.f hc)
            refine w_skip ?_
            refine block_norm ?_
            refine then_norm ?_
            refine w_run [0, 0] ?_
            refine t_done [(.int .i64 n0), culprits1, (.agg [(.int .i64 v8), (.int .i64 v9)]), (.bool ((decide (n0 < 0)) || (decide (n0 > 16)))), (.bool (decide ((len3 : Int) > 8))), (.int .i64 (IntKind.wrap .i64 (v10 + 1))), (.int .i64 (len4 : Int)), (.bool (decide (v10 < (len4 : Int)))), culprits1, e18, (.bool ((len20 : Int) == 0)), (.int .i64 v10), (.int .i64 r21), (.bool (r21 != 0))] H22 (by kernel_rfl) ?_
            obtain ⟨m', hm, h⟩ := h
            refine loop_norm ⟨m', hm, _, _, _, _, _, _, _, _, _, rfl, h⟩
      · replace h := h.2 (is_dec.f hc)
        refine w_exit ?_
        refine then_exit ?_
        refine loop_exit ?_
        refine block_exit ?_
        refine then_norm ?_
        refine w_seq ?_
        refine w_run [1, 1] ?_
        refine t_build true [(.int .i64 0), (.int .i64 0)] [] [] [(.int .i64 0), (.int .i64 0)] H17 (by kernel_rfl) (by kernel_rfl) ?_
        refine t_upd true 2 0 [(.int .i64 v8), (.int .i64 v9)] (.agg [(.int .i64 0), (.int .i64 0)]) [(.int .i64 0), (.int .i64 0)] [(.int .i64 0), (.int .i64 0)] H17 (by kernel_rfl) rfl (all_c rfl (all_c rfl all_n)) ⟨rfl, Nat.le_of_ble_eq_true (by kernel_rfl), rfl⟩ ?_
        refine t_done [(.int .i64 n0), culprits1, (.agg [(.int .i64 0), (.int .i64 0)]), (.bool ((decide (n0 < 0)) || (decide (n0 > 16)))), (.bool (decide ((len3 : Int) > 8))), (.int .i64 v10), (.int .i64 (len4 : Int)), (.bool (decide (v10 < (len4 : Int)))), culprits1, d12, d13, d14, d15, d16] H17 (by kernel_rfl) ?_
        refine then_norm ?_
        refine w_ret ?_
        exact body_ret (vs := [(.agg [(.int .i64 0), (.int .i64 0)])]) _ (by kernel_rfl) rfl h

-- batchbisect_Fails
def rf_batchbisect_Fails (nbatchbisect_Validate nbatchbisect_setCode nbatchbisect_Failing : Nat) : RFunc := ⟨3, 9, [.var 3, .part 4 (some 2)],
 ((.seq (.ops [⟨.move (.k (.bool false)), none, (some 3), true⟩, ⟨.tomb 1 (.k (.agg [.int .i64 0, .int .i64 0])), none, (some 4), true⟩])
 ((.seq ((.seq (.ops [⟨.move (.var 0), none, none, true⟩, ⟨.move (.var 1), none, none, true⟩, ⟨.callS nbatchbisect_Validate [(.loc 0), (.loc 1)], none, none, true⟩, ⟨.tomb 1 (.k (.agg [.int .i64 0, .int .i64 0])), none, (some 5), true⟩, ⟨.upd 2 0 (.loc 3) (.loc 2), none, (some 5), true⟩])
 ((.seq (.ops [⟨.field 0 (some 2) (.var 5), none, none, true⟩, ⟨.build [.int .i64 0, .int .i64 0] [], none, none, true⟩, ⟨.bin .neq (.agg [.int, .int]) (.loc 0) (.loc 1), none, (some 6), true⟩])
 (.cond (.var 6) ((.seq (.ops [⟨.field 0 (some 2) (.var 5), none, none, true⟩, ⟨.move (.k (.bool false)), none, (some 3), false⟩, ⟨.upd 2 0 (.var 4) (.loc 0), none, (some 4), true⟩])
 (.ret))) (.skip))))))
 ((.seq ((.seq (.ops [⟨.move (.var 0), none, none, true⟩, ⟨.move (.var 2), none, none, true⟩, ⟨.callS nbatchbisect_setCode [(.loc 0), (.loc 1)], none, none, true⟩, ⟨.move (.loc 2), none, (some 7), true⟩])
 ((.seq (.ops [⟨.move (.var 7), none, none, true⟩, ⟨.bin .neq .no (.loc 0) (.k (.int .i64 0)), none, (some 8), true⟩])
 (.cond (.var 8) ((.seq (.ops [⟨.move (.var 7), none, none, true⟩, ⟨.build [.int .i64 0, .int .i64 0] [(0, 1, (.loc 0)), (1, 1, (.k (.int .i64 (-2))))], none, none, true⟩, ⟨.move (.k (.bool false)), none, (some 3), true⟩, ⟨.upd 2 0 (.var 4) (.loc 1), none, (some 4), true⟩])
 (.ret))) (.skip))))))
 ((.seq (.ops [⟨.move (.var 1), none, none, true⟩, ⟨.move (.var 2), none, none, true⟩, ⟨.callS nbatchbisect_Failing [(.loc 0), (.loc 1)], none, none, true⟩, ⟨.build [.int .i64 0, .int .i64 0] [], none, none, true⟩, ⟨.move (.loc 2), none, (some 3), true⟩, ⟨.upd 2 0 (.var 4) (.loc 3), none, (some 4), true⟩])
 (.ret)))))))))⟩
theorem v_batchbisect_Fails {F : Nat → Option RFunc} {me nbatchbisect_Validate nbatchbisect_setCode nbatchbisect_Failing : Nat} (hF : F me = some (rf_batchbisect_Fails nbatchbisect_Validate nbatchbisect_setCode nbatchbisect_Failing)) {fl : Nat} {H : Heap} {Q : AV → Heap → Prop} (n0 : Int) (culprits1 : AV) (set2 : AV)
  (h : ∀ (H3 : Heap), Dead1 H 1 H3 → Ret F fl nbatchbisect_Validate [(.int .i64 n0), culprits1] H3 (fun v7 H6 => ∃ (r4 : Int) (r5 : Int), v7 = (.agg [(.int .i64 r4), (.int .i64 r5)]) ∧ ∀ (H8 : Heap), Dead1 H6 1 H8 → ((¬(((r4 = 0) ∧ (((r5 = 0) ∧ (True)))))) → Q (.tuple [(.bool false), (.agg [(.int .i64 r4), (.int .i64 r5)])]) H8) ∧ (¬(¬(((r4 = 0) ∧ (((r5 = 0) ∧ (True)))))) → Ret F fl nbatchbisect_setCode [(.int .i64 n0), set2] H8 (fun v11 H10 => ∃ (r9 : Int), v11 = (.int .i64 r9) ∧ ((r9 ≠ 0) → Q (.tuple [(.bool false), (.agg [(.int .i64 r9), (.int .i64 (-2))])]) H10) ∧ (¬(r9 ≠ 0) → Ret F fl nbatchbisect_Failing [culprits1, set2] H10 (fun v14 H13 => ∃ (r12 : Bool), v14 = (.bool r12) ∧ Q (.tuple [(.bool r12), (.agg [(.int .i64 0), (.int .i64 0)])]) H13)))))) : Ret F fl me [(.int .i64 n0), culprits1, set2] H Q := by
  refine ret_intro hF rfl ?_
  refine w_seq ?_
  refine w_run [0, 1] ?_
  obtain ⟨H3, hb⟩ : ∃ H', Dead1 H 1 H' := ⟨_, ⟨rfl⟩⟩
  replace h := h H3 hb
  refine t_tomb true 1 (.agg [(.int .i64 0), (.int .i64 0)]) [(.int .i64 0), (.int .i64 0)] H3 H (by kernel_rfl) rfl hb ?_
  refine t_done [(.int .i64 n0), culprits1, set2, (.bool false), (.agg [(.int .i64 0), (.int .i64 0)]), .undef, .undef, .undef, .undef] H3 (by kernel_rfl) ?_
  refine then_norm ?_
  refine w_seq ?_
  refine w_seq ?_
  refine w_run [0, 0, 1, 1, 1] ?_
  refine t_call true nbatchbisect_Validate [(.int .i64 n0), culprits1] H3 (by kernel_rfl) h ?_
  clear h
  rintro _ H6 ⟨r4, r5, rfl, h⟩
  obtain ⟨H8, hb⟩ : ∃ H', Dead1 H6 1 H' := ⟨_, ⟨rfl⟩⟩
  replace h := h H8 hb
  refine t_tomb true 1 (.agg [(.int .i64 0), (.int .i64 0)]) [(.int .i64 0), (.int .i64 0)] H8 H6 (by kernel_rfl) rfl hb ?_
  refine t_upd true 2 0 [(.int .i64 0), (.int .i64 0)] (.agg [(.int .i64 r4), (.int .i64 r5)]) [(.int .i64 r4), (.int .i64 r5)] [(.int .i64 r4), (.int .i64 r5)] H8 (by kernel_rfl) rfl (all_c rfl (all_c rfl all_n)) ⟨rfl, Nat.le_of_ble_eq_true (by kernel_rfl), rfl⟩ ?_
  refine t_done [(.int .i64 n0), culprits1, set2, (.bool false), (.agg [(.int .i64 0), (.int .i64 0)]), (.agg [(.int .i64 r4), (.int .i64 r5)]), .undef, .undef, .undef] H8 (by kernel_rfl) ?_
  refine then_norm ?_
  refine w_seq ?_
  refine w_run [0, 1, 0] ?_
  refine t_build true [(.int .i64 0), (.int .i64 0)] [] [] [(.int .i64 0), (.int .i64 0)] H8 (by kernel_rfl) (by kernel_rfl) ?_
  refine t_done [(.int .i64 n0), culprits1, set2, (.bool false), (.agg [(.int .i64 0), (.int .i64 0)]), (.agg [(.int .i64 r4), (.int .i64 r5)]), (.bool (!((r4 == 0) && ((r5 == 0) && true)))), .undef, .undef] H8 (by kernel_rfl) ?_
  refine then_norm ?_
  refine w_cond (t := (!((r4 == 0) && ((r5 == 0) && true)))) rfl (fun hc => ?_) (fun hc => ?_)
  · replace h := h.1 ((is_not (is_and is_eq (is_and is_eq is_true))).t hc)
    refine w_seq ?_
    refine w_run [0, 0, 1] ?_
    refine t_upd true 2 0 [(.int .i64 0), (.int .i64 0)] (.agg [(.int .i64 r4), (.int .i64 r5)]) [(.int .i64 r4), (.int .i64 r5)] [(.int .i64 r4), (.int .i64 r5)] H8 (by kernel_rfl) rfl (all_c rfl (all_c rfl all_n)) ⟨rfl, Nat.le_of_ble_eq_true (by kernel_rfl), rfl⟩ ?_
    refine t_done [(.int .i64 n0), culprits1, set2, (.bool false), (.agg [(.int .i64 r4), (.int .i64 r5)]), (.agg [(.int .i64 r4), (.int .i64 r5)]), (.bool (!((r4 == 0) && ((r5 == 0) && true)))), .undef, .undef] H8 (by kernel_rfl) ?_
    refine then_norm ?_
    refine w_ret ?_
    refine then_ret ?_
    exact body_ret (vs := [(.bool false), (.agg [(.int .i64 r4), (.int .i64 r5)])]) _ (by kernel_rfl) rfl h
  · replace h := h.2 ((is_not (is_and is_eq (is_and is_eq is_true))).f hc)
    refine w_skip ?_
    refine then_norm ?_
    refine w_seq ?_
    refine w_seq ?_
    refine w_run [0, 0, 1, 0] ?_
    refine t_call true nbatchbisect_setCode [(.int .i64 n0), set2] H8 (by kernel_rfl) h ?_
    clear h
    rintro _ H10 ⟨r9, rfl, h⟩
    refine t_done [(.int .i64 n0), culprits1, set2, (.bool false), (.agg [(.int .i64 0), (.int .i64 0)]), (.agg [(.int .i64 r4), (.int .i64 r5)]), (.bool (!((r4 == 0) && ((r5 == 0) && true)))), (.int .i64 r9), .undef] H10 (by kernel_rfl) ?_
    refine then_norm ?_
    refine w_seq ?_
    refine w_run [0, 0] ?_
    refine t_done [(.int .i64 n0), culprits1, set2, (.bool false), (.agg [(.int .i64 0), (.int .i64 0)]), (.agg [(.int .i64 r4), (.int .i64 r5)]), (.bool (!((r4 == 0) && ((r5 == 0) && true)))), (.int .i64 r9), (.bool (r9 != 0))] H10 (by kernel_rfl) ?_
    refine then_norm ?_
    refine w_cond (t := (r9 != 0)) rfl (fun hc => ?_) (fun hc => ?_)
    · replace h := h.1 (is_ne.t hc)
      refine w_seq ?_
      refine w_run [0, 1, 0, 1] ?_
      refine t_build true [(.int .i64 0), (.int .i64 0)] [(0, 1, .loc 0), (1, 1, .loc 1)] [(.int .i64 r9), (.int .i64 (-2))] [(.int .i64 r9), (.int .i64 (-2))] H10 (by kernel_rfl) (fill_c (vs := [(.int .i64 r9)]) (size := 1) rfl (by kernel_rfl) (by kernel_rfl) (fill_c (vs := [(.int .i64 (-2))]) (size := 1) rfl (by kernel_rfl) (by kernel_rfl) (by kernel_rfl))) ?_
      refine t_upd true 2 0 [(.int .i64 0), (.int .i64 0)] (.agg [(.int .i64 r9), (.int .i64 (-2))]) [(.int .i64 r9), (.int .i64 (-2))] [(.int .i64 r9), (.int .i64 (-2))] H10 (by kernel_rfl) rfl (all_c rfl (all_c rfl all_n)) ⟨rfl, Nat.le_of_ble_eq_true (by kernel_rfl), rfl⟩ ?_
      refine t_done [(.int .i64 n0), culprits1, set2, (.bool false), (.agg [(.int .i64 r9), (.int .i64 (-2))]), (.agg [(.int .i64 r4), (.int .i64 r5)]), (.bool (!((r4 == 0) && ((r5 == 0) && true)))), (.int .i64 r9), (.bool (r9 != 0))] H10 (by kernel_rfl) ?_
      refine then_norm ?_
      refine w_ret ?_
      refine then_ret ?_
      exact body_ret (vs := [(.bool false), (.agg [(.int .i64 r9), (.int .i64 (-2))])]) _ (by kernel_rfl) rfl h
    · replace h := h.2 (is_ne.f hc)
      refine w_skip ?_
      refine then_norm ?_
      refine w_seq ?_
      refine w_run [0, 0, 1, 1, 0, 1] ?_
      refine t_call true nbatchbisect_Failing [culprits1, set2] H10 (by kernel_rfl) h ?_
      clear h
      rintro _ H13 ⟨r12, rfl, h⟩
      refine t_build true [(.int .i64 0), (.int .i64 0)] [] [] [(.int .i64 0), (.int .i64 0)] H13 (by kernel_rfl) (by kernel_rfl) ?_
      refine t_upd true 2 0 [(.int .i64 0), (.int .i64 0)] (.agg [(.int .i64 0), (.int .i64 0)]) [(.int .i64 0), (.int .i64 0)] [(.int .i64 0), (.int .i64 0)] H13 (by kernel_rfl) rfl (all_c rfl (all_c rfl all_n)) ⟨rfl, Nat.le_of_ble_eq_true (by kernel_rfl), rfl⟩ ?_
      refine t_done [(.int .i64 n0), culprits1, set2, (.bool r12), (.agg [(.int .i64 0), (.int .i64 0)]), (.agg [(.int .i64 r4), (.int .i64 r5)]), (.bool (!((r4 == 0) && ((r5 == 0) && true)))), (.int .i64 r9), (.bool (r9 != 0))] H13 (by kernel_rfl) ?_
      refine then_norm ?_
      refine w_ret ?_
      exact body_ret (vs := [(.bool r12), (.agg [(.int .i64 0), (.int .i64 0)])]) _ (by kernel_rfl) rfl h

-- batchbisect_First
def rf_batchbisect_First (nbatchbisect_Validate nbatchbisect_prefix nbatchbisect_Failing nbatchbisect_Firstx1 nbatchbisect_search : Nat) : RFunc := ⟨2, 11, [.var 2, .var 3, .part 4 (some 2)],
 ((.seq (.ops [⟨.box 1 (.var 1), none, (some 5), true⟩, ⟨.move (.k (.int .i64 0)), none, (some 2), true⟩, ⟨.move (.k (.empty)), none, (some 3), true⟩, ⟨.tomb 1 (.k (.agg [.int .i64 0, .int .i64 0])), none, (some 4), true⟩])
 ((.seq ((.seq (.ops [⟨.move (.var 0), none, none, true⟩, ⟨.load none (.var 5), none, none, true⟩, ⟨.callS nbatchbisect_Validate [(.loc 0), (.loc 1)], none, none, true⟩, ⟨.tomb 1 (.k (.agg [.int .i64 0, .int .i64 0])), none, (some 6), true⟩, ⟨.upd 2 0 (.loc 3) (.loc 2), none, (some 6), true⟩])
 ((.seq (.ops [⟨.field 0 (some 2) (.var 6), none, none, true⟩, ⟨.build [.int .i64 0, .int .i64 0] [], none, none, true⟩, ⟨.bin .neq (.agg [.int, .int]) (.loc 0) (.loc 1), none, (some 7), true⟩])
 (.cond (.var 7) ((.seq (.ops [⟨.field 0 (some 2) (.var 6), none, none, true⟩, ⟨.move (.k (.int .i64 0)), none, (some 2), false⟩, ⟨.move (.k (.empty)), none, (some 3), false⟩, ⟨.upd 2 0 (.var 4) (.loc 0), none, (some 4), true⟩])
 (.ret))) (.skip))))))
 ((.seq ((.seq (.ops [⟨.load none (.var 5), none, none, false⟩, ⟨.move (.var 0), none, none, false⟩, ⟨.callS nbatchbisect_prefix [(.loc 1)], none, none, false⟩, ⟨.callS nbatchbisect_Failing [(.loc 0), (.loc 2)], none, none, true⟩, ⟨.un .not (.loc 3), none, (some 8), true⟩])
 (.cond (.var 8) ((.seq (.ops [⟨.build [.int .i64 0, .int .i64 0] [(0, 1, (.k (.int .i64 6))), (1, 1, (.k (.int .i64 (-1))))], none, none, true⟩, ⟨.move (.k (.int .i64 0)), none, (some 2), true⟩, ⟨.move (.k (.empty)), none, (some 3), true⟩, ⟨.upd 2 0 (.var 4) (.loc 0), none, (some 4), true⟩])
 (.ret))) (.skip))))
 ((.seq (.ops [⟨.move (.var 0), none, none, true⟩, ⟨.makeFunc nbatchbisect_Firstx1 [(.var 5)], none, none, true⟩, ⟨.callS nbatchbisect_search [(.loc 0), (.loc 1)], none, none, true⟩, ⟨.move (.loc 2), none, none, true⟩, ⟨.extract (.loc 3) 0, none, none, true⟩, ⟨.extract (.loc 3) 1, none, none, true⟩, ⟨.move (.loc 4), none, (some 9), true⟩, ⟨.move (.loc 5), none, (some 10), true⟩])
 ((.seq (.ops [⟨.move (.var 9), none, none, true⟩, ⟨.bin .sub .no (.loc 0) (.k (.int .i64 1)), none, none, true⟩, ⟨.move (.var 0), none, none, true⟩, ⟨.buildSlice 1 [.int .i64 0] [(0, 1, (.loc 2))] 1, none, none, true⟩, ⟨.move (.var 10), none, none, true⟩, ⟨.append 1 8 (.loc 3) (.loc 4), none, none, true⟩, ⟨.build [.int .i64 0, .int .i64 0] [], none, none, true⟩, ⟨.move (.loc 1), none, (some 2), true⟩, ⟨.move (.loc 5), none, (some 3), true⟩, ⟨.upd 2 0 (.var 4) (.loc 6), none, (some 4), true⟩])
 (.ret)))))))))))⟩
theorem v_batchbisect_First {F : Nat → Option RFunc} {me nbatchbisect_Validate nbatchbisect_prefix nbatchbisect_Failing nbatchbisect_Firstx1 nbatchbisect_search : Nat} (hF : F me = some (rf_batchbisect_First nbatchbisect_Validate nbatchbisect_prefix nbatchbisect_Failing nbatchbisect_Firstx1 nbatchbisect_search)) {fl : Nat} {H : Heap} {Q : AV → Heap → Prop} (n0 : Int) (culprits1 : AV)
  (h : Scal culprits1 ∧ ∀ (b3 : Nat) (H4 : Heap), NewB H 1 [culprits1] b3 H4 → ∀ (H5 : Heap), Dead1 H4 1 H5 → ∃ (e6 : AV), rload H5 none b3 0 = some e6 ∧ Ret F fl nbatchbisect_Validate [(.int .i64 n0), e6] H5 (fun v10 H9 => ∃ (r7 : Int) (r8 : Int), v10 = (.agg [(.int .i64 r7), (.int .i64 r8)]) ∧ ∀ (H11 : Heap), Dead1 H9 1 H11 → ((¬(((r7 = 0) ∧ (((r8 = 0) ∧ (True)))))) → Q (.tuple [(.int .i64 0), .empty, (.agg [(.int .i64 r7), (.int .i64 r8)])]) H11) ∧ (¬(¬(((r7 = 0) ∧ (((r8 = 0) ∧ (True)))))) → ∃ (e12 : AV), rload H11 none b3 0 = some e12 ∧ Ret F H11.length nbatchbisect_prefix [(.int .i64 n0)] H11 (fun r13 H14 => Ret F fl nbatchbisect_Failing [e12, r13] H14 (fun v18 H17 => ∃ (r16 : Bool), v18 = (.bool r16) ∧ ((¬(r16 = true)) → Q (.tuple [(.int .i64 0), .empty, (.agg [(.int .i64 6), (.int .i64 (-1))])]) H17) ∧ (¬(¬(r16 = true)) → Ret F fl nbatchbisect_search [(.int .i64 n0), (.func nbatchbisect_Firstx1 [(.ptr b3 0)])] H17 (fun v22 H21 => ∃ (r19 : Int) (r20 : AV), v22 = (.tuple [(.int .i64 r19), r20]) ∧ ∀ (b23 : Nat) (H24 : Heap), NewB H21 1 [(.int .i64 n0)] b23 H24 → ∃ (a25 : AV) (H26 : Heap), appA fl true 1 8 H24 (.slice b23 0 1 (some 1)) r20 = some (a25, H26) ∧ Q (.tuple [(.int .i64 (IntKind.wrap .i64 (r19 - 1))), a25, (.agg [(.int .i64 0), (.int .i64 0)])]) H26))))))) : Ret F fl me [(.int .i64 n0), culprits1] H Q := by
  refine ret_intro hF rfl ?_
  refine w_seq ?_
  refine w_run [1, 0, 0, 1] ?_
  obtain ⟨hs2, h⟩ := h
  obtain ⟨b3, H4, hb⟩ : ∃ b H', NewB H 1 [culprits1] b H' := ⟨_, _, rfl, rfl⟩
  replace h := h b3 H4 hb
  refine t_box true 1 culprits1 [culprits1] b3 H4 H (by kernel_rfl) hs2.1 hb ?_
  obtain ⟨H5, hb⟩ : ∃ H', Dead1 H4 1 H' := ⟨_, ⟨rfl⟩⟩
  replace h := h H5 hb
  refine t_tomb true 1 (.agg [(.int .i64 0), (.int .i64 0)]) [(.int .i64 0), (.int .i64 0)] H5 H4 (by kernel_rfl) rfl hb ?_
  refine t_done [(.int .i64 n0), culprits1, (.int .i64 0), .empty, (.agg [(.int .i64 0), (.int .i64 0)]), (.ptr b3 0), .undef, .undef, .undef, .undef, .undef] H5 (by kernel_rfl) ?_
  refine then_norm ?_
  refine w_seq ?_
  refine w_seq ?_
  refine w_run [0, 1, 1, 1, 1] ?_
  obtain ⟨e6, hl, h⟩ := h
  refine t_load true none b3 0 e6 H5 (by kernel_rfl) hl ?_
  refine t_call true nbatchbisect_Validate [(.int .i64 n0), e6] H5 (by kernel_rfl) h ?_
  clear h
  rintro _ H9 ⟨r7, r8, rfl, h⟩
  obtain ⟨H11, hb⟩ : ∃ H', Dead1 H9 1 H' := ⟨_, ⟨rfl⟩⟩
  replace h := h H11 hb
  refine t_tomb true 1 (.agg [(.int .i64 0), (.int .i64 0)]) [(.int .i64 0), (.int .i64 0)] H11 H9 (by kernel_rfl) rfl hb ?_
  refine t_upd true 2 0 [(.int .i64 0), (.int .i64 0)] (.agg [(.int .i64 r7), (.int .i64 r8)]) [(.int .i64 r7), (.int .i64 r8)] [(.int .i64 r7), (.int .i64 r8)] H11 (by kernel_rfl) rfl (all_c rfl (all_c rfl all_n)) ⟨rfl, Nat.le_of_ble_eq_true (by kernel_rfl), rfl⟩ ?_
  refine t_done [(.int .i64 n0), culprits1, (.int .i64 0), .empty, (.agg [(.int .i64 0), (.int .i64 0)]), (.ptr b3 0), (.agg [(.int .i64 r7), (.int .i64 r8)]), .undef, .undef, .undef, .undef] H11 (by kernel_rfl) ?_
  refine then_norm ?_
  refine w_seq ?_
  refine w_run [0, 1, 0] ?_
  refine t_build true [(.int .i64 0), (.int .i64 0)] [] [] [(.int .i64 0), (.int .i64 0)] H11 (by kernel_rfl) (by kernel_rfl) ?_
  refine t_done [(.int .i64 n0), culprits1, (.int .i64 0), .empty, (.agg [(.int .i64 0), (.int .i64 0)]), (.ptr b3 0), (.agg [(.int .i64 r7), (.int .i64 r8)]), (.bool (!((r7 == 0) && ((r8 == 0) && true)))), .undef, .undef, .undef] H11 (by kernel_rfl) ?_
  refine then_norm ?_
  refine w_cond (t := (!((r7 == 0) && ((r8 == 0) && true)))) rfl (fun hc => ?_) (fun hc => ?_)
  · replace h := h.1 ((is_not (is_and is_eq (is_and is_eq is_true))).t hc)
    refine w_seq ?_
    refine w_run [0, 0, 0, 1] ?_
    refine t_upd true 2 0 [(.int .i64 0), (.int .i64 0)] (.agg [(.int .i64 r7), (.int .i64 r8)]) [(.int .i64 r7), (.int .i64 r8)] [(.int .i64 r7), (.int .i64 r8)] H11 (by kernel_rfl) rfl (all_c rfl (all_c rfl all_n)) ⟨rfl, Nat.le_of_ble_eq_true (by kernel_rfl), rfl⟩ ?_
    refine t_done [(.int .i64 n0), culprits1, (.int .i64 0), .empty, (.agg [(.int .i64 r7), (.int .i64 r8)]), (.ptr b3 0), (.agg [(.int .i64 r7), (.int .i64 r8)]), (.bool (!((r7 == 0) && ((r8 == 0) && true)))), .undef, .undef, .undef] H11 (by kernel_rfl) ?_
    refine then_norm ?_
    refine w_ret ?_
    refine then_ret ?_
    exact body_ret (vs := [(.int .i64 0), .empty, (.agg [(.int .i64 r7), (.int .i64 r8)])]) _ (by kernel_rfl) rfl h
  · replace h := h.2 ((is_not (is_and is_eq (is_and is_eq is_true))).f hc)
    refine w_skip ?_
    refine then_norm ?_
    refine w_seq ?_
    refine w_seq ?_
    refine w_run [1, 0, 1, 1, 0] ?_
    obtain ⟨e12, hl, h⟩ := h
    refine t_load false none b3 0 e12 H11 (by kernel_rfl) hl ?_
    refine t_call false nbatchbisect_prefix [(.int .i64 n0)] H11 (by kernel_rfl) h ?_
    clear h
    rintro r13 H14 h
    refine t_call true nbatchbisect_Failing [e12, r13] H14 (by kernel_rfl) h ?_
    clear h
    rintro _ H17 ⟨r16, rfl, h⟩
    refine t_done [(.int .i64 n0), culprits1, (.int .i64 0), .empty, (.agg [(.int .i64 0), (.int .i64 0)]), (.ptr b3 0), (.agg [(.int .i64 r7), (.int .i64 r8)]), (.bool (!((r7 == 0) && ((r8 == 0) && true)))), (.bool (!r16)), .undef, .undef] H17 (by kernel_rfl) ?_
    refine then_norm ?_
    refine w_cond (t := (!r16)) rfl (fun hc => ?_) (fun hc => ?_)
    · replace h := h.1 ((is_not is_raw).t hc)
      refine w_seq ?_
      refine w_run [1, 0, 0, 1] ?_
      refine t_build true [(.int .i64 0), (.int .i64 0)] [(0, 1, .loc 0), (1, 1, .loc 1)] [(.int .i64 6), (.int .i64 (-1))] [(.int .i64 6), (.int .i64 (-1))] H17 (by kernel_rfl) (fill_c (vs := [(.int .i64 6)]) (size := 1) rfl (by kernel_rfl) (by kernel_rfl) (fill_c (vs := [(.int .i64 (-1))]) (size := 1) rfl (by kernel_rfl) (by kernel_rfl) (by kernel_rfl))) ?_
      refine t_upd true 2 0 [(.int .i64 0), (.int .i64 0)] (.agg [(.int .i64 6), (.int .i64 (-1))]) [(.int .i64 6), (.int .i64 (-1))] [(.int .i64 6), (.int .i64 (-1))] H17 (by kernel_rfl) rfl (all_c rfl (all_c rfl all_n)) ⟨rfl, Nat.le_of_ble_eq_true (by kernel_rfl), rfl⟩ ?_
      refine t_done [(.int .i64 n0), culprits1, (.int .i64 0), .empty, (.agg [(.int .i64 6), (.int .i64 (-1))]), (.ptr b3 0), (.agg [(.int .i64 r7), (.int .i64 r8)]), (.bool (!((r7 == 0) && ((r8 == 0) && true)))), (.bool (!r16)), .undef, .undef] H17 (by kernel_rfl) ?_
      refine then_norm ?_
      refine w_ret ?_
      refine then_ret ?_
      exact body_ret (vs := [(.int .i64 0), .empty, (.agg [(.int .i64 6), (.int .i64 (-1))])]) _ (by kernel_rfl) rfl h
    · replace h := h.2 ((is_not is_raw).f hc)
      refine w_skip ?_
      refine then_norm ?_
      refine w_seq ?_
      refine w_run [0, 0, 1, 0, 0, 0, 0, 0] ?_
      refine t_call true nbatchbisect_search [(.int .i64 n0), (.func nbatchbisect_Firstx1 [(.ptr b3 0)])] H17 (by kernel_rfl) h ?_
      clear h
      rintro _ H21 ⟨r19, r20, rfl, h⟩
      refine t_done [(.int .i64 n0), culprits1, (.int .i64 0), .empty, (.agg [(.int .i64 0), (.int .i64 0)]), (.ptr b3 0), (.agg [(.int .i64 r7), (.int .i64 r8)]), (.bool (!((r7 == 0) && ((r8 == 0) && true)))), (.bool (!r16)), (.int .i64 r19), r20] H21 (by kernel_rfl) ?_
      refine then_norm ?_
      refine w_seq ?_
      refine w_run [0, 0, 0, 1, 0, 1, 1, 0, 0, 1] ?_
      obtain ⟨b23, H24, hb⟩ : ∃ b H', NewB H21 1 [(.int .i64 n0)] b H' := ⟨_, _, rfl, rfl⟩
      replace h := h b23 H24 hb
      refine t_bs true 1 [(.int .i64 0)] [(0, 1, .loc 0)] 1 [(.int .i64 n0)] [(.int .i64 n0)] b23 H24 H21 (by kernel_rfl) (fill_c (vs := [(.int .i64 n0)]) (size := 1) rfl (by kernel_rfl) (by kernel_rfl) (by kernel_rfl)) hb ?_
      obtain ⟨a25, H26, ha, h⟩ := h
      refine t_app true 1 8 (.slice b23 0 1 (some 1)) r20 a25 H26 H24 (by kernel_rfl) ha ?_
      refine t_build true [(.int .i64 0), (.int .i64 0)] [] [] [(.int .i64 0), (.int .i64 0)] H26 (by kernel_rfl) (by kernel_rfl) ?_
      refine t_upd true 2 0 [(.int .i64 0), (.int .i64 0)] (.agg [(.int .i64 0), (.int .i64 0)]) [(.int .i64 0), (.int .i64 0)] [(.int .i64 0), (.int .i64 0)] H26 (by kernel_rfl) rfl (all_c rfl (all_c rfl all_n)) ⟨rfl, Nat.le_of_ble_eq_true (by kernel_rfl), rfl⟩ ?_
      refine t_done [(.int .i64 n0), culprits1, (.int .i64 (IntKind.wrap .i64 (r19 - 1))), a25, (.agg [(.int .i64 0), (.int .i64 0)]), (.ptr b3 0), (.agg [(.int .i64 r7), (.int .i64 r8)]), (.bool (!((r7 == 0) && ((r8 == 0) && true)))), (.bool (!r16)), (.int .i64 r19), r20] H26 (by kernel_rfl) ?_
      refine then_norm ?_
      refine w_ret ?_
      exact body_ret (vs := [(.int .i64 (IntKind.wrap .i64 (r19 - 1))), a25, (.agg [(.int .i64 0), (.int .i64 0)])]) _ (by kernel_rfl) rfl h

-- batchbisect_Minimal
def rf_batchbisect_Minimal (nbatchbisect_Validate nbatchbisect_prefix nbatchbisect_Failing nbatchbisect_Minimalx1 nbatchbisect_search : Nat) : RFunc := ⟨2, 11, [.var 2, .part 3 (some 2)],
 ((.seq (.ops [⟨.box 1 (.var 1), none, (some 4), true⟩, ⟨.move (.k (.empty)), none, (some 2), true⟩, ⟨.tomb 1 (.k (.agg [.int .i64 0, .int .i64 0])), none, (some 3), true⟩])
 ((.seq ((.seq (.ops [⟨.move (.var 0), none, none, true⟩, ⟨.load none (.var 4), none, none, true⟩, ⟨.callS nbatchbisect_Validate [(.loc 0), (.loc 1)], none, none, true⟩, ⟨.tomb 1 (.k (.agg [.int .i64 0, .int .i64 0])), none, (some 5), true⟩, ⟨.upd 2 0 (.loc 3) (.loc 2), none, (some 5), true⟩])
 ((.seq (.ops [⟨.field 0 (some 2) (.var 5), none, none, true⟩, ⟨.build [.int .i64 0, .int .i64 0] [], none, none, true⟩, ⟨.bin .neq (.agg [.int, .int]) (.loc 0) (.loc 1), none, (some 6), true⟩])
 (.cond (.var 6) ((.seq (.ops [⟨.field 0 (some 2) (.var 5), none, none, true⟩, ⟨.move (.k (.empty)), none, (some 2), false⟩, ⟨.upd 2 0 (.var 3) (.loc 0), none, (some 3), true⟩])
 (.ret))) (.skip))))))
 ((.seq ((.seq (.ops [⟨.load none (.var 4), none, none, false⟩, ⟨.move (.var 0), none, none, false⟩, ⟨.callS nbatchbisect_prefix [(.loc 1)], none, none, false⟩, ⟨.callS nbatchbisect_Failing [(.loc 0), (.loc 2)], none, none, true⟩, ⟨.un .not (.loc 3), none, (some 7), true⟩])
 (.cond (.var 7) ((.seq (.ops [⟨.build [.int .i64 0, .int .i64 0] [(0, 1, (.k (.int .i64 6))), (1, 1, (.k (.int .i64 (-1))))], none, none, true⟩, ⟨.move (.k (.empty)), none, (some 2), true⟩, ⟨.upd 2 0 (.var 3) (.loc 0), none, (some 3), true⟩])
 (.ret))) (.skip))))
 ((.seq (.ops [⟨.alloc 1 [.empty], none, (some 8), true⟩])
 ((.seq (.block 0 (.loop ((.seq ((.seq (.ops [⟨.load none (.var 4), none, none, true⟩, ⟨.load none (.var 8), none, none, true⟩, ⟨.callS nbatchbisect_Failing [(.loc 0), (.loc 1)], none, none, true⟩, ⟨.un .not (.loc 2), none, (some 9), true⟩])
 (.cond (.var 9) (.skip) (.exit 0))))
 (.block 1 ((.seq (.ops [⟨.move (.var 0), none, none, true⟩, ⟨.makeFunc nbatchbisect_Minimalx1 [(.var 4), (.var 8)], none, none, true⟩, ⟨.callS nbatchbisect_search [(.loc 0), (.loc 1)], none, none, true⟩, ⟨.move (.loc 2), none, none, true⟩, ⟨.extract (.loc 3) 0, none, none, true⟩, ⟨.extract (.loc 3) 1, none, none, true⟩, ⟨.move (.loc 4), none, (some 10), true⟩, ⟨.move (.loc 5), none, none, true⟩])
 ((.seq (.ops [⟨.move (.var 10), none, none, true⟩, ⟨.bin .sub .no (.loc 0) (.k (.int .i64 1)), none, none, true⟩, ⟨.buildSlice 1 [.int .i64 0] [(0, 1, (.loc 1))] 1, none, none, true⟩, ⟨.load none (.var 8), none, none, true⟩, ⟨.append 1 8 (.loc 2) (.loc 3), none, none, true⟩, ⟨.store 1 (.var 8) (.loc 4) [], none, none, true⟩])
 (.ops [⟨.move (.var 10), none, none, true⟩, ⟨.bin .sub .no (.loc 0) (.k (.int .i64 1)), none, none, true⟩, ⟨.move (.loc 1), none, (some 0), true⟩]))))))))))
 ((.seq (.ops [⟨.load none (.var 8), none, none, true⟩, ⟨.build [.int .i64 0, .int .i64 0] [], none, none, true⟩, ⟨.move (.loc 0), none, (some 2), true⟩, ⟨.upd 2 0 (.var 3) (.loc 1), none, (some 3), true⟩])
 (.ret)))))))))))))⟩
theorem v_batchbisect_Minimal {F : Nat → Option RFunc} {me nbatchbisect_Validate nbatchbisect_prefix nbatchbisect_Failing nbatchbisect_Minimalx1 nbatchbisect_search : Nat} (hF : F me = some (rf_batchbisect_Minimal nbatchbisect_Validate nbatchbisect_prefix nbatchbisect_Failing nbatchbisect_Minimalx1 nbatchbisect_search)) {fl : Nat} {H : Heap} {Q : AV → Heap → Prop} (n0 : Int) (culprits1 : AV)
  (h : Scal culprits1 ∧ ∀ (b3 : Nat) (H4 : Heap), NewB H 1 [culprits1] b3 H4 → ∀ (H5 : Heap), Dead1 H4 1 H5 → ∃ (e6 : AV), rload H5 none b3 0 = some e6 ∧ Ret F fl nbatchbisect_Validate [(.int .i64 n0), e6] H5 (fun v10 H9 => ∃ (r7 : Int) (r8 : Int), v10 = (.agg [(.int .i64 r7), (.int .i64 r8)]) ∧ ∀ (H11 : Heap), Dead1 H9 1 H11 → ((¬(((r7 = 0) ∧ (((r8 = 0) ∧ (True)))))) → Q (.tuple [.empty, (.agg [(.int .i64 r7), (.int .i64 r8)])]) H11) ∧ (¬(¬(((r7 = 0) ∧ (((r8 = 0) ∧ (True)))))) → ∃ (e12 : AV), rload H11 none b3 0 = some e12 ∧ Ret F H11.length nbatchbisect_prefix [(.int .i64 n0)] H11 (fun r13 H14 => Ret F fl nbatchbisect_Failing [e12, r13] H14 (fun v18 H17 => ∃ (r16 : Bool), v18 = (.bool r16) ∧ ((¬(r16 = true)) → Q (.tuple [.empty, (.agg [(.int .i64 6), (.int .i64 (-1))])]) H17) ∧ (¬(¬(r16 = true)) → ∀ (b19 : Nat) (H20 : Heap), NewB H17 1 [.empty] b19 H20 → ∃ (J21 : Nat → Int → Heap → Prop) (k22 : Nat), J21 k22 n0 H20 ∧ (∀ (m23 : Nat) (n24 : Int) (H27 : Heap), J21 m23 n24 H27 → ∃ (e28 : AV), rload H27 none b3 0 = some e28 ∧ ∃ (e29 : AV), rload H27 none b19 0 = some e29 ∧ Ret F fl nbatchbisect_Failing [e28, e29] H27 (fun v32 H31 => ∃ (r30 : Bool), v32 = (.bool r30) ∧ ((¬(r30 = true)) → Ret F fl nbatchbisect_search [(.int .i64 n24), (.func nbatchbisect_Minimalx1 [(.ptr b3 0), (.ptr b19 0)])] H31 (fun v36 H35 => ∃ (r33 : Int) (r34 : AV), v36 = (.tuple [(.int .i64 r33), r34]) ∧ ∀ (b37 : Nat) (H38 : Heap), NewB H35 1 [(.int .i64 (IntKind.wrap .i64 (r33 - 1)))] b37 H38 → ∃ (e39 : AV), rload H38 none b19 0 = some e39 ∧ ∃ (a40 : AV) (H41 : Heap), appA fl true 1 8 H38 (.slice b37 0 1 (some 1)) e39 = some (a40, H41) ∧ ∃ H42 : Heap, putA fl H41 b19 0 1 a40 = some H42 ∧ ∃ m43 : Nat, m43 < m23 ∧ J21 m43 (IntKind.wrap .i64 (r33 - 1)) H42)) ∧ (¬(¬(r30 = true)) → ∃ (e44 : AV), rload H31 none b19 0 = some e44 ∧ Q (.tuple [e44, (.agg [(.int .i64 0), (.int .i64 0)])]) H31))))))))) : Ret F fl me [(.int .i64 n0), culprits1] H Q := by
  refine ret_intro hF rfl ?_
  refine w_seq ?_
  refine w_run [1, 0, 1] ?_
  obtain ⟨hs2, h⟩ := h
  obtain ⟨b3, H4, hb⟩ : ∃ b H', NewB H 1 [culprits1] b H' := ⟨_, _, rfl, rfl⟩
  replace h := h b3 H4 hb
  refine t_box true 1 culprits1 [culprits1] b3 H4 H (by kernel_rfl) hs2.1 hb ?_
  obtain ⟨H5, hb⟩ : ∃ H', Dead1 H4 1 H' := ⟨_, ⟨rfl⟩⟩
  replace h := h H5 hb
  refine t_tomb true 1 (.agg [(.int .i64 0), (.int .i64 0)]) [(.int .i64 0), (.int .i64 0)] H5 H4 (by kernel_rfl) rfl hb ?_
  refine t_done [(.int .i64 n0), culprits1, .empty, (.agg [(.int .i64 0), (.int .i64 0)]), (.ptr b3 0), .undef, .undef, .undef, .undef, .undef, .undef] H5 (by kernel_rfl) ?_
  refine then_norm ?_
  refine w_seq ?_
  refine w_seq ?_
  refine w_run [0, 1, 1, 1, 1] ?_
  obtain ⟨e6, hl, h⟩ := h
  refine t_load true none b3 0 e6 H5 (by kernel_rfl) hl ?_
  refine t_call true nbatchbisect_Validate [(.int .i64 n0), e6] H5 (by kernel_rfl) h ?_
  clear h
  rintro _ H9 ⟨r7, r8, rfl, h⟩
  obtain ⟨H11, hb⟩ : ∃ H', Dead1 H9 1 H' := ⟨_, ⟨rfl⟩⟩
  replace h := h H11 hb
  refine t_tomb true 1 (.agg [(.int .i64 0), (.int .i64 0)]) [(.int .i64 0), (.int .i64 0)] H11 H9 (by kernel_rfl) rfl hb ?_
  refine t_upd true 2 0 [(.int .i64 0), (.int .i64 0)] (.agg [(.int .i64 r7), (.int .i64 r8)]) [(.int .i64 r7), (.int .i64 r8)] [(.int .i64 r7), (.int .i64 r8)] H11 (by kernel_rfl) rfl (all_c rfl (all_c rfl all_n)) ⟨rfl, Nat.le_of_ble_eq_true (by kernel_rfl), rfl⟩ ?_
  refine t_done [(.int .i64 n0), culprits1, .empty, (.agg [(.int .i64 0), (.int .i64 0)]), (.ptr b3 0), (.agg [(.int .i64 r7), (.int .i64 r8)]), .undef, .undef, .undef, .undef, .undef] H11 (by kernel_rfl) ?_
  refine then_norm ?_
  refine w_seq ?_
  refine w_run [0, 1, 0] ?_
  refine t_build true [(.int .i64 0), (.int .i64 0)] [] [] [(.int .i64 0), (.int .i64 0)] H11 (by kernel_rfl) (by kernel_rfl) ?_
  refine t_done [(.int .i64 n0), culprits1, .empty, (.agg [(.int .i64 0), (.int .i64 0)]), (.ptr b3 0), (.agg [(.int .i64 r7), (.int .i64 r8)]), (.bool (!((r7 == 0) && ((r8 == 0) && true)))), .undef, .undef, .undef, .undef] H11 (by kernel_rfl) ?_
  refine then_norm ?_
  refine w_cond (t := (!((r7 == 0) && ((r8 == 0) && true)))) rfl (fun hc => ?_) (fun hc => ?_)
  · replace h := h.1 ((is_not (is_and is_eq (is_and is_eq is_true))).t hc)
    refine w_seq ?_
    refine w_run [0, 0, 1] ?_
    refine t_upd true 2 0 [(.int .i64 0), (.int .i64 0)] (.agg [(.int .i64 r7), (.int .i64 r8)]) [(.int .i64 r7), (.int .i64 r8)] [(.int .i64 r7), (.int .i64 r8)] H11 (by kernel_rfl) rfl (all_c rfl (all_c rfl all_n)) ⟨rfl, Nat.le_of_ble_eq_true (by kernel_rfl), rfl⟩ ?_
    refine t_done [(.int .i64 n0), culprits1, .empty, (.agg [(.int .i64 r7), (.int .i64 r8)]), (.ptr b3 0), (.agg [(.int .i64 r7), (.int .i64 r8)]), (.bool (!((r7 == 0) && ((r8 == 0) && true)))), .undef, .undef, .undef, .undef] H11 (by kernel_rfl) ?_
    refine then_norm ?_
    refine w_ret ?_
    refine then_ret ?_
    exact body_ret (vs := [.empty, (.agg [(.int .i64 r7), (.int .i64 r8)])]) _ (by kernel_rfl) rfl h
  · replace h := h.2 ((is_not (is_and is_eq (is_and is_eq is_true))).f hc)
    refine w_skip ?_
    refine then_norm ?_
    refine w_seq ?_
    refine w_seq ?_
    refine w_run [1, 0, 1, 1, 0] ?_
    obtain ⟨e12, hl, h⟩ := h
    refine t_load false none b3 0 e12 H11 (by kernel_rfl) hl ?_
    refine t_call false nbatchbisect_prefix [(.int .i64 n0)] H11 (by kernel_rfl) h ?_
    clear h
    rintro r13 H14 h
    refine t_call true nbatchbisect_Failing [e12, r13] H14 (by kernel_rfl) h ?_
    clear h
    rintro _ H17 ⟨r16, rfl, h⟩
    refine t_done [(.int .i64 n0), culprits1, .empty, (.agg [(.int .i64 0), (.int .i64 0)]), (.ptr b3 0), (.agg [(.int .i64 r7), (.int .i64 r8)]), (.bool (!((r7 == 0) && ((r8 == 0) && true)))), (.bool (!r16)), .undef, .undef, .undef] H17 (by kernel_rfl) ?_
    refine then_norm ?_
    refine w_cond (t := (!r16)) rfl (fun hc => ?_) (fun hc => ?_)
    · replace h := h.1 ((is_not is_raw).t hc)
      refine w_seq ?_
      refine w_run [1, 0, 1] ?_
      refine t_build true [(.int .i64 0), (.int .i64 0)] [(0, 1, .loc 0), (1, 1, .loc 1)] [(.int .i64 6), (.int .i64 (-1))] [(.int .i64 6), (.int .i64 (-1))] H17 (by kernel_rfl) (fill_c (vs := [(.int .i64 6)]) (size := 1) rfl (by kernel_rfl) (by kernel_rfl) (fill_c (vs := [(.int .i64 (-1))]) (size := 1) rfl (by kernel_rfl) (by kernel_rfl) (by kernel_rfl))) ?_
      refine t_upd true 2 0 [(.int .i64 0), (.int .i64 0)] (.agg [(.int .i64 6), (.int .i64 (-1))]) [(.int .i64 6), (.int .i64 (-1))] [(.int .i64 6), (.int .i64 (-1))] H17 (by kernel_rfl) rfl (all_c rfl (all_c rfl all_n)) ⟨rfl, Nat.le_of_ble_eq_true (by kernel_rfl), rfl⟩ ?_
      refine t_done [(.int .i64 n0), culprits1, .empty, (.agg [(.int .i64 6), (.int .i64 (-1))]), (.ptr b3 0), (.agg [(.int .i64 r7), (.int .i64 r8)]), (.bool (!((r7 == 0) && ((r8 == 0) && true)))), (.bool (!r16)), .undef, .undef, .undef] H17 (by kernel_rfl) ?_
      refine then_norm ?_
      refine w_ret ?_
      refine then_ret ?_
      exact body_ret (vs := [.empty, (.agg [(.int .i64 6), (.int .i64 (-1))])]) _ (by kernel_rfl) rfl h
    · replace h := h.2 ((is_not is_raw).f hc)
      refine w_skip ?_
      refine then_norm ?_
      refine w_seq ?_
      refine w_run [1] ?_
      obtain ⟨b19, H20, hb⟩ : ∃ b H', NewB H17 1 [.empty] b H' := ⟨_, _, rfl, rfl⟩
      replace h := h b19 H20 hb
      refine t_alloc true 1 [.empty] b19 H20 H17 (by kernel_rfl) hb ?_
      refine t_done [(.int .i64 n0), culprits1, .empty, (.agg [(.int .i64 0), (.int .i64 0)]), (.ptr b3 0), (.agg [(.int .i64 r7), (.int .i64 r8)]), (.bool (!((r7 == 0) && ((r8 == 0) && true)))), (.bool (!r16)), (.ptr b19 0), .undef, .undef] H20 (by kernel_rfl) ?_
      refine then_norm ?_
      refine w_seq ?_
      refine w_block ?_
      obtain ⟨J21, k22, h0, h⟩ := h
      refine w_loop (I := fun mI EI HI => ∃ (n24 : Int) (d25 : AV) (d26 : AV), EI = [(.int .i64 n24), culprits1, .empty, (.agg [(.int .i64 0), (.int .i64 0)]), (.ptr b3 0), (.agg [(.int .i64 r7), (.int .i64 r8)]), (.bool (!((r7 == 0) && ((r8 == 0) && true)))), (.bool (!r16)), (.ptr b19 0), d25, d26] ∧ J21 mI n24 HI) ?_ k22 ⟨_, _, _, rfl, h0⟩
      clear h0
      rintro m23 EI H27 ⟨n24, d25, d26, rfl, hJ⟩
      replace h := h m23 n24 H27 hJ
      clear hJ
      refine w_seq ?_
      refine w_seq ?_
      refine w_run [1, 1, 1, 0] ?_
      obtain ⟨e28, hl, h⟩ := h
      refine t_load true none b3 0 e28 H27 (by kernel_rfl) hl ?_
      obtain ⟨e29, hl, h⟩ := h
      refine t_load true none b19 0 e29 H27 (by kernel_rfl) hl ?_
      refine t_call true nbatchbisect_Failing [e28, e29] H27 (by kernel_rfl) h ?_
      clear h
      rintro _ H31 ⟨r30, rfl, h⟩
      refine t_done [(.int .i64 n24), culprits1, .empty, (.agg [(.int .i64 0), (.int .i64 0)]), (.ptr b3 0), (.agg [(.int .i64 r7), (.int .i64 r8)]), (.bool (!((r7 == 0) && ((r8 == 0) && true)))), (.bool (!r16)), (.ptr b19 0), (.bool (!r30)), d26] H31 (by kernel_rfl) ?_
      refine then_norm ?_
      refine w_cond (t := (!r30)) rfl (fun hc => ?_) (fun hc => ?_)
      · replace h := h.1 ((is_not is_raw).t hc)
        refine w_skip ?_
        refine then_norm ?_
        refine w_block ?_
        refine w_seq ?_
        refine w_run [0, 0, 1, 0, 0, 0, 0, 0] ?_
        refine t_call true nbatchbisect_search [(.int .i64 n24), (.func nbatchbisect_Minimalx1 [(.ptr b3 0), (.ptr b19 0)])] H31 (by kernel_rfl) h ?_
        clear h
        rintro _ H35 ⟨r33, r34, rfl, h⟩
        refine t_done [(.int .i64 n24), culprits1, .empty, (.agg [(.int .i64 0), (.int .i64 0)]), (.ptr b3 0), (.agg [(.int .i64 r7), (.int .i64 r8)]), (.bool (!((r7 == 0) && ((r8 == 0) && true)))), (.bool (!r16)), (.ptr b19 0), (.bool (!r30)), (.int .i64 r33)] H35 (by kernel_rfl) ?_
        refine then_norm ?_
        refine w_seq ?_
        refine w_run [0, 0, 1, 1, 1, 1] ?_
        obtain ⟨b37, H38, hb⟩ : ∃ b H', NewB H35 1 [(.int .i64 (IntKind.wrap .i64 (r33 - 1)))] b H' := ⟨_, _, rfl, rfl⟩
        replace h := h b37 H38 hb
        refine t_bs true 1 [(.int .i64 0)] [(0, 1, .loc 0)] 1 [(.int .i64 (IntKind.wrap .i64 (r33 - 1)))] [(.int .i64 (IntKind.wrap .i64 (r33 - 1)))] b37 H38 H35 (by kernel_rfl) (fill_c (vs := [(.int .i64 (IntKind.wrap .i64 (r33 - 1)))]) (size := 1) rfl (by kernel_rfl) (by kernel_rfl) (by kernel_rfl)) hb ?_
        obtain ⟨e39, hl, h⟩ := h
        refine t_load true none b19 0 e39 H38 (by kernel_rfl) hl ?_
        obtain ⟨a40, H41, ha, h⟩ := h
        refine t_app true 1 8 (.slice b37 0 1 (some 1)) e39 a40 H41 H38 (by kernel_rfl) ha ?_
        obtain ⟨H42, hp, h⟩ := h
        refine t_store true 1 b19 0 a40 H42 H41 (by kernel_rfl) hp ?_
        refine t_done [(.int .i64 n24), culprits1, .empty, (.agg [(.int .i64 0), (.int .i64 0)]), (.ptr b3 0), (.agg [(.int .i64 r7), (.int .i64 r8)]), (.bool (!((r7 == 0) && ((r8 == 0) && true)))), (.bool (!r16)), (.ptr b19 0), (.bool (!r30)), (.int .i64 r33)] H42 (by kernel_rfl) ?_
        refine then_norm ?_
        refine w_run [0, 0, 0] ?_
        refine t_done [(.int .i64 (IntKind.wrap .i64 (r33 - 1))), culprits1, .empty, (.agg [(.int .i64 0), (.int .i64 0)]), (.ptr b3 0), (.agg [(.int .i64 r7), (.int .i64 r8)]), (.bool (!((r7 == 0) && ((r8 == 0) && true)))), (.bool (!r16)), (.ptr b19 0), (.bool (!r30)), (.int .i64 r33)] H42 (by kernel_rfl) ?_
        refine block_norm ?_
        obtain ⟨m', hm, h⟩ := h
        refine loop_norm ⟨m', hm, _, _, _, rfl, h⟩
      · replace h := h.2 ((is_not is_raw).f hc)
        refine w_exit ?_
        refine then_exit ?_
        refine loop_exit ?_
        refine block_exit ?_
        refine then_norm ?_
        refine w_seq ?_
        refine w_run [1, 1, 0, 1] ?_
        obtain ⟨e44, hl, h⟩ := h
        refine t_load true none b19 0 e44 H31 (by kernel_rfl) hl ?_
        refine t_build true [(.int .i64 0), (.int .i64 0)] [] [] [(.int .i64 0), (.int .i64 0)] H31 (by kernel_rfl) (by kernel_rfl) ?_
        refine t_upd true 2 0 [(.int .i64 0), (.int .i64 0)] (.agg [(.int .i64 0), (.int .i64 0)]) [(.int .i64 0), (.int .i64 0)] [(.int .i64 0), (.int .i64 0)] H31 (by kernel_rfl) rfl (all_c rfl (all_c rfl all_n)) ⟨rfl, Nat.le_of_ble_eq_true (by kernel_rfl), rfl⟩ ?_
        refine t_done [(.int .i64 n24), culprits1, e44, (.agg [(.int .i64 0), (.int .i64 0)]), (.ptr b3 0), (.agg [(.int .i64 r7), (.int .i64 r8)]), (.bool (!((r7 == 0) && ((r8 == 0) && true)))), (.bool (!r16)), (.ptr b19 0), (.bool (!r30)), d26] H31 (by kernel_rfl) ?_
        refine then_norm ?_
        refine w_ret ?_
        exact body_ret (vs := [e44, (.agg [(.int .i64 0), (.int .i64 0)])]) _ (by kernel_rfl) rfl h

-- batchbisect_Greedy
def rf_batchbisect_Greedy (nbatchbisect_Validate nbatchbisect_Failing : Nat) : RFunc := ⟨2, 13, [.var 2, .part 3 (some 2)],
 ((.seq (.ops [⟨.move (.k (.empty)), none, (some 2), true⟩, ⟨.tomb 1 (.k (.agg [.int .i64 0, .int .i64 0])), none, (some 3), true⟩])
 ((.seq ((.seq (.ops [⟨.move (.var 0), none, none, true⟩, ⟨.move (.var 1), none, none, true⟩, ⟨.callS nbatchbisect_Validate [(.loc 0), (.loc 1)], none, none, true⟩, ⟨.tomb 1 (.k (.agg [.int .i64 0, .int .i64 0])), none, (some 4), true⟩, ⟨.upd 2 0 (.loc 3) (.loc 2), none, (some 4), true⟩])
 ((.seq (.ops [⟨.field 0 (some 2) (.var 4), none, none, true⟩, ⟨.build [.int .i64 0, .int .i64 0] [], none, none, true⟩, ⟨.bin .neq (.agg [.int, .int]) (.loc 0) (.loc 1), none, (some 5), true⟩])
 (.cond (.var 5) ((.seq (.ops [⟨.field 0 (some 2) (.var 4), none, none, true⟩, ⟨.move (.k (.empty)), none, (some 2), false⟩, ⟨.upd 2 0 (.var 3) (.loc 0), none, (some 3), true⟩])
 (.ret))) (.skip))))))
 ((.seq (.ops [⟨.move (.k (.empty)), none, (some 9), true⟩])
 ((.seq ((.seq (.ops [⟨.move (.var 0), none, (some 7), true⟩, ⟨.move (.k (.int .i64 0)), none, (some 6), true⟩])
 (.block 0 (.loop ((.seq (.ops [⟨.bin .lss .no (.var 6) (.var 7), none, (some 8), true⟩])
 ((.seq (.cond (.var 8) (.skip) (.exit 0))
 ((.seq (.block 1 ((.seq (.ops [⟨.move (.var 6), none, none, true⟩, ⟨.move (.loc 0), none, (some 10), true⟩])
 ((.seq (.ops [⟨.move (.var 9), none, none, true⟩, ⟨.move (.var 10), none, none, true⟩, ⟨.buildSlice 1 [.int .i64 0] [(0, 1, (.loc 1))] 1, none, none, true⟩, ⟨.append 1 8 (.loc 0) (.loc 2), none, none, true⟩, ⟨.move (.loc 3), none, (some 11), true⟩])
 ((.seq (.ops [⟨.move (.var 1), none, none, true⟩, ⟨.move (.var 11), none, none, true⟩, ⟨.callS nbatchbisect_Failing [(.loc 0), (.loc 1)], none, none, true⟩, ⟨.un .not (.loc 2), none, (some 12), true⟩])
 (.cond (.var 12) (.ops [⟨.move (.var 11), none, none, true⟩, ⟨.move (.loc 0), none, (some 9), true⟩]) (.skip)))))))))
 (.ops [⟨.bin .add .no (.var 6) (.k (.int .i64 1)), none, none, true⟩, ⟨.move (.loc 0), none, (some 6), true⟩])))))))))))
 ((.seq (.ops [⟨.move (.var 9), none, none, true⟩, ⟨.build [.int .i64 0, .int .i64 0] [], none, none, true⟩, ⟨.move (.loc 0), none, (some 2), true⟩, ⟨.upd 2 0 (.var 3) (.loc 1), none, (some 3), true⟩])
 (.ret)))))))))))⟩
theorem v_batchbisect_Greedy {F : Nat → Option RFunc} {me nbatchbisect_Validate nbatchbisect_Failing : Nat} (hF : F me = some (rf_batchbisect_Greedy nbatchbisect_Validate nbatchbisect_Failing)) {fl : Nat} {H : Heap} {Q : AV → Heap → Prop} (n0 : Int) (culprits1 : AV)
  (h : ∀ (H2 : Heap), Dead1 H 1 H2 → Ret F fl nbatchbisect_Validate [(.int .i64 n0), culprits1] H2 (fun v6 H5 => ∃ (r3 : Int) (r4 : Int), v6 = (.agg [(.int .i64 r3), (.int .i64 r4)]) ∧ ∀ (H7 : Heap), Dead1 H5 1 H7 → ((¬(((r3 = 0) ∧ (((r4 = 0) ∧ (True)))))) → Q (.tuple [.empty, (.agg [(.int .i64 r3), (.int .i64 r4)])]) H7) ∧ (¬(¬(((r3 = 0) ∧ (((r4 = 0) ∧ (True)))))) → ∃ (J8 : Nat → Int → AV → Heap → Prop) (k9 : Nat), J8 k9 0 .empty H7 ∧ (∀ (m10 : Nat) (v11 : Int) (out13 : AV) (H17 : Heap), J8 m10 v11 out13 H17 → ((v11 < n0) → ∀ (b18 : Nat) (H19 : Heap), NewB H17 1 [(.int .i64 v11)] b18 H19 → ∃ (a20 : AV) (H21 : Heap), appA fl true 1 8 H19 out13 (.slice b18 0 1 (some 1)) = some (a20, H21) ∧ Ret F fl nbatchbisect_Failing [culprits1, a20] H21 (fun v24 H23 => ∃ (r22 : Bool), v24 = (.bool r22) ∧ ((¬(r22 = true)) → ∃ m25 : Nat, m25 < m10 ∧ J8 m25 (IntKind.wrap .i64 (v11 + 1)) a20 H23) ∧ (¬(¬(r22 = true)) → ∃ m26 : Nat, m26 < m10 ∧ J8 m26 (IntKind.wrap .i64 (v11 + 1)) out13 H23))) ∧ (¬(v11 < n0) → Q (.tuple [out13, (.agg [(.int .i64 0), (.int .i64 0)])]) H17))))) : Ret F fl me [(.int .i64 n0), culprits1] H Q := by
  refine ret_intro hF rfl ?_
  refine w_seq ?_
  refine w_run [0, 1] ?_
  obtain ⟨H2, hb⟩ : ∃ H', Dead1 H 1 H' := ⟨_, ⟨rfl⟩⟩
  replace h := h H2 hb
  refine t_tomb true 1 (.agg [(.int .i64 0), (.int .i64 0)]) [(.int .i64 0), (.int .i64 0)] H2 H (by kernel_rfl) rfl hb ?_
  refine t_done [(.int .i64 n0), culprits1, .empty, (.agg [(.int .i64 0), (.int .i64 0)]), .undef, .undef, .undef, .undef, .undef, .undef, .undef, .undef, .undef] H2 (by kernel_rfl) ?_
  refine then_norm ?_
  refine w_seq ?_
  refine w_seq ?_
  refine w_run [0, 0, 1, 1, 1] ?_
  refine t_call true nbatchbisect_Validate [(.int .i64 n0), culprits1] H2 (by kernel_rfl) h ?_
  clear h
  rintro _ H5 ⟨r3, r4, rfl, h⟩
  obtain ⟨H7, hb⟩ : ∃ H', Dead1 H5 1 H' := ⟨_, ⟨rfl⟩⟩
  replace h := h H7 hb
  refine t_tomb true 1 (.agg [(.int .i64 0), (.int .i64 0)]) [(.int .i64 0), (.int .i64 0)] H7 H5 (by kernel_rfl) rfl hb ?_
  refine t_upd true 2 0 [(.int .i64 0), (.int .i64 0)] (.agg [(.int .i64 r3), (.int .i64 r4)]) [(.int .i64 r3), (.int .i64 r4)] [(.int .i64 r3), (.int .i64 r4)] H7 (by kernel_rfl) rfl (all_c rfl (all_c rfl all_n)) ⟨rfl, Nat.le_of_ble_eq_true (by kernel_rfl), rfl⟩ ?_
  refine t_done [(.int .i64 n0), culprits1, .empty, (.agg [(.int .i64 0), (.int .i64 0)]), (.agg [(.int .i64 r3), (.int .i64 r4)]), .undef, .undef, .undef, .undef, .undef, .undef, .undef, .undef] H7 (by kernel_rfl) ?_
  refine then_norm ?_
  refine w_seq ?_
  refine w_run [0, 1, 0] ?_
  refine t_build true [(.int .i64 0), (.int .i64 0)] [] [] [(.int .i64 0), (.int .i64 0)] H7 (by kernel_rfl) (by kernel_rfl) ?_
  refine t_done [(.int .i64 n0), culprits1, .empty, (.agg [(.int .i64 0), (.int .i64 0)]), (.agg [(.int .i64 r3), (.int .i64 r4)]), (.bool (!((r3 == 0) && ((r4 == 0) && true)))), .undef, .undef, .undef, .undef, .undef, .undef, .undef] H7 (by kernel_rfl) ?_
  refine then_norm ?_
  refine w_cond (t := (!((r3 == 0) && ((r4 == 0) && true)))) rfl (fun hc => ?_) (fun hc => ?_)
  · replace h := h.1 ((is_not (is_and is_eq (is_and is_eq is_true))).t hc)
    refine w_seq ?_
    refine w_run [0, 0, 1] ?_
    refine t_upd true 2 0 [(.int .i64 0), (.int .i64 0)] (.agg [(.int .i64 r3), (.int .i64 r4)]) [(.int .i64 r3), (.int .i64 r4)] [(.int .i64 r3), (.int .i64 r4)] H7 (by kernel_rfl) rfl (all_c rfl (all_c rfl all_n)) ⟨rfl, Nat.le_of_ble_eq_true (by kernel_rfl), rfl⟩ ?_
    refine t_done [(.int .i64 n0), culprits1, .empty, (.agg [(.int .i64 r3), (.int .i64 r4)]), (.agg [(.int .i64 r3), (.int .i64 r4)]), (.bool (!((r3 == 0) && ((r4 == 0) && true)))), .undef, .undef, .undef, .undef, .undef, .undef, .undef] H7 (by kernel_rfl) ?_
    refine then_norm ?_
    refine w_ret ?_
    refine then_ret ?_
    exact body_ret (vs := [.empty, (.agg [(.int .i64 r3), (.int .i64 r4)])]) _ (by kernel_rfl) rfl h
  · replace h := h.2 ((is_not (is_and is_eq (is_and is_eq is_true))).f hc)
    refine w_skip ?_
    refine then_norm ?_
    refine w_seq ?_
    refine w_run [0] ?_
    refine t_done [(.int .i64 n0), culprits1, .empty, (.agg [(.int .i64 0), (.int .i64 0)]), (.agg [(.int .i64 r3), (.int .i64 r4)]), (.bool (!((r3 == 0) && ((r4 == 0) && true)))), .undef, .undef, .undef, .empty, .undef, .undef, .undef] H7 (by kernel_rfl) ?_
    refine then_norm ?_
    refine w_seq ?_
    refine w_seq ?_
    refine w_run [0, 0] ?_
    refine t_done [(.int .i64 n0), culprits1, .empty, (.agg [(.int .i64 0), (.int .i64 0)]), (.agg [(.int .i64 r3), (.int .i64 r4)]), (.bool (!((r3 == 0) && ((r4 == 0) && true)))), (.int .i64 0), (.int .i64 n0), .undef, .empty, .undef, .undef, .undef] H7 (by kernel_rfl) ?_
    refine then_norm ?_
    refine w_block ?_
    obtain ⟨J8, k9, h0, h⟩ := h
    refine w_loop (I := fun mI EI HI => ∃ (v11 : Int) (d12 : AV) (out13 : AV) (d14 : AV) (d15 : AV) (d16 : AV), EI = [(.int .i64 n0), culprits1, .empty, (.agg [(.int .i64 0), (.int .i64 0)]), (.agg [(.int .i64 r3), (.int .i64 r4)]), (.bool (!((r3 == 0) && ((r4 == 0) && true)))), (.int .i64 v11), (.int .i64 n0), d12, out13, d14, d15, d16] ∧ J8 mI v11 out13 HI) ?_ k9 ⟨_, _, _, _, _, _, rfl, h0⟩
    clear h0
    rintro m10 EI H17 ⟨v11, d12, out13, d14, d15, d16, rfl, hJ⟩
    replace h := h m10 v11 out13 H17 hJ
    clear hJ
    refine w_seq ?_
    refine w_run [0] ?_
    refine t_done [(.int .i64 n0), culprits1, .empty, (.agg [(.int .i64 0), (.int .i64 0)]), (.agg [(.int .i64 r3), (.int .i64 r4)]), (.bool (!((r3 == 0) && ((r4 == 0) && true)))), (.int .i64 v11), (.int .i64 n0), (.bool (decide (v11 < n0))), out13, d14, d15, d16] H17 (by kernel_rfl) ?_
    refine then_norm ?_
    refine w_seq ?_
    refine w_cond (t := (decide (v11 < n0))) rfl (fun hc => ?_) (fun hc => ?_)
    · replace h := h.1 (is_dec.t hc)
      refine w_skip ?_
      refine then_norm ?_
      refine w_seq ?_
      refine w_block ?_
      refine w_seq ?_
      refine w_run [0, 0] ?_
      refine t_done [(.int .i64 n0), culprits1, .empty, (.agg [(.int .i64 0), (.int .i64 0)]), (.agg [(.int .i64 r3), (.int .i64 r4)]), (.bool (!((r3 == 0) && ((r4 == 0) && true)))), (.int .i64 v11), (.int .i64 n0), (.bool (decide (v11 < n0))), out13, (.int .i64 v11), d15, d16] H17 (by kernel_rfl) ?_
      refine then_norm ?_
      refine w_seq ?_
      refine w_run [0, 0, 1, 1, 0] ?_
      obtain ⟨b18, H19, hb⟩ : ∃ b H', NewB H17 1 [(.int .i64 v11)] b H' := ⟨_, _, rfl, rfl⟩
      replace h := h b18 H19 hb
      refine t_bs true 1 [(.int .i64 0)] [(0, 1, .loc 0)] 1 [(.int .i64 v11)] [(.int .i64 v11)] b18 H19 H17 (by kernel_rfl) (fill_c (vs := [(.int .i64 v11)]) (size := 1) rfl (by kernel_rfl) (by kernel_rfl) (by kernel_rfl)) hb ?_
      obtain ⟨a20, H21, ha, h⟩ := h
      refine t_app true 1 8 out13 (.slice b18 0 1 (some 1)) a20 H21 H19 (by kernel_rfl) ha ?_
      refine t_done [(.int .i64 n0), culprits1, .empty, (.agg [(.int .i64 0), (.int .i64 0)]), (.agg [(.int .i64 r3), (.int .i64 r4)]), (.bool (!((r3 == 0) && ((r4 == 0) && true)))), (.int .i64 v11), (.int .i64 n0), (.bool (decide (v11 < n0))), out13, (.int .i64 v11), a20, d16] H21 (by kernel_rfl) ?_
      refine then_norm ?_
      refine w_seq ?_
      refine w_run [0, 0, 1, 0] ?_
      refine t_call true nbatchbisect_Failing [culprits1, a20] H21 (by kernel_rfl) h ?_
      clear h
      rintro _ H23 ⟨r22, rfl, h⟩
      refine t_done [(.int .i64 n0), culprits1, .empty, (.agg [(.int .i64 0), (.int .i64 0)]), (.agg [(.int .i64 r3), (.int .i64 r4)]), (.bool (!((r3 == 0) && ((r4 == 0) && true)))), (.int .i64 v11), (.int .i64 n0), (.bool (decide (v11 < n0))), out13, (.int .i64 v11), a20, (.bool (!r22))] H23 (by kernel_rfl) ?_
      refine then_norm ?_
      refine w_cond (t := (!r22)) rfl (fun hc => ?_) (fun hc => ?_)
      · replace h := h.1 ((is_not is_raw).t hc)
        refine w_run [0, 0] ?_
        refine t_done [(.int .i64 n0), culprits1, .empty, (.agg [(.int .i64 0), (.int .i64 0)]), (.agg [(.int .i64 r3), (.int .i64 r4)]), (.bool (!((r3 == 0) && ((r4 == 0) && true)))), (.int .i64 v11), (.int .i64 n0), (.bool (decide (v11 < n0))), a20, (.int .i64 v11), a20, (.bool (!r22))] H23 (by kernel_rfl) ?_
        refine block_norm ?_
        refine then_norm ?_
        refine w_run [0, 0] ?_
        refine t_done [(.int .i64 n0), culprits1, .empty, (.agg [(.int .i64 0), (.int .i64 0)]), (.agg [(.int .i64 r3), (.int .i64 r4)]), (.bool (!((r3 == 0) && ((r4 == 0) && true)))), (.int .i64 (IntKind.wrap .i64 (v11 + 1))), (.int .i64 n0), (.bool (decide (v11 < n0))), a20, (.int .i64 v11), a20, (.bool (!r22))] H23 (by kernel_rfl) ?_
        obtain ⟨m', hm, h⟩ := h
        refine loop_norm ⟨m', hm, _, _, _, _, _, _, rfl, h⟩
      · replace h := h.2 ((is_not is_raw).f hc)
        refine w_skip ?_
        refine block_norm ?_
        refine then_norm ?_
        refine w_run [0, 0] ?_
        refine t_done [(.int .i64 n0), culprits1, .empty, (.agg [(.int .i64 0), (.int .i64 0)]), (.agg [(.int .i64 r3), (.int .i64 r4)]), (.bool (!((r3 == 0) && ((r4 == 0) && true)))), (.int .i64 (IntKind.wrap .i64 (v11 + 1))), (.int .i64 n0), (.bool (decide (v11 < n0))), out13, (.int .i64 v11), a20, (.bool (!r22))] H23 (by kernel_rfl) ?_
        obtain ⟨m', hm, h⟩ := h
        refine loop_norm ⟨m', hm, _, _, _, _, _, _, rfl, h⟩
    · replace h := h.2 (is_dec.f hc)
      refine w_exit ?_
      refine then_exit ?_
      refine loop_exit ?_
      refine block_exit ?_
      refine then_norm ?_
      refine w_seq ?_
      refine w_run [0, 1, 0, 1] ?_
      refine t_build true [(.int .i64 0), (.int .i64 0)] [] [] [(.int .i64 0), (.int .i64 0)] H17 (by kernel_rfl) (by kernel_rfl) ?_
      refine t_upd true 2 0 [(.int .i64 0), (.int .i64 0)] (.agg [(.int .i64 0), (.int .i64 0)]) [(.int .i64 0), (.int .i64 0)] [(.int .i64 0), (.int .i64 0)] H17 (by kernel_rfl) rfl (all_c rfl (all_c rfl all_n)) ⟨rfl, Nat.le_of_ble_eq_true (by kernel_rfl), rfl⟩ ?_
      refine t_done [(.int .i64 n0), culprits1, out13, (.agg [(.int .i64 0), (.int .i64 0)]), (.agg [(.int .i64 r3), (.int .i64 r4)]), (.bool (!((r3 == 0) && ((r4 == 0) && true)))), (.int .i64 v11), (.int .i64 n0), (.bool (decide (v11 < n0))), out13, d14, d15, d16] H17 (by kernel_rfl) ?_
      refine then_norm ?_
      refine w_ret ?_
      exact body_ret (vs := [out13, (.agg [(.int .i64 0), (.int .i64 0)])]) _ (by kernel_rfl) rfl h

end Go.RM
