import Derived.Test.YtpjbnjgckbhohaaRmWp
import Derived.Test.YtpjbnjgckbhohaaSlcW
import Derived.Test.YtpjbnjgckbhohaaRmEntry
/-
  Functions of the program as the abstract machine runs them, and what must be shown of a run: printed by RmPrint.
-/
namespace Go.RM
set_option linter.unusedVariables false
set_option maxRecDepth 4000
def rf_batchbisect_setCode : RFunc := ⟨2, 11, [.var 2],
 ((.seq (.ops [⟨.move (.k (.int .i64 0)), none, (some 2), true⟩])
 ((.seq ((.seq (.ops [⟨.move (.var 1), none, (some 6), true⟩, ⟨.len (.loc 0), none, (some 4), true⟩, ⟨.move (.k (.int .i64 0)), none, (some 3), true⟩])
 (.block 0 (.loop ((.seq (.ops [⟨.bin .lss .no (.var 3) (.var 4), none, (some 5), true⟩])
 ((.seq (.cond (.var 5) (.skip) (.exit 0))
 ((.seq (.block 1 ((.seq (.ops [⟨.move (.var 3), none, none, true⟩, ⟨.indexAddr 1 (.var 6) (.var 3), none, none, true⟩, ⟨.load none (.loc 1), none, none, true⟩, ⟨.move (.loc 0), none, (some 9), true⟩, ⟨.move (.loc 2), none, (some 7), true⟩])
 (.block 2 ((.seq (.ops [⟨.move (.var 7), none, none, true⟩, ⟨.bin .lss .no (.loc 0) (.k (.int .i64 0)), none, none, true⟩, ⟨.move (.loc 1), none, none, true⟩, ⟨.move (.var 7), none, none, true⟩, ⟨.move (.var 0), none, none, true⟩, ⟨.bin .geq .no (.loc 3) (.loc 4), none, none, true⟩, ⟨.pick (.loc 2) (.k (.bool true)) (.loc 5), none, none, true⟩, ⟨.move (.loc 6), none, (some 8), true⟩])
 (.cond (.var 8) ((.seq (.ops [⟨.move (.k (.int .i64 3)), none, (some 2), true⟩])
 (.ret))) ((.seq (.ops [⟨.move (.var 9), none, none, true⟩, ⟨.bin .gtr .no (.loc 0) (.k (.int .i64 0)), none, none, true⟩, ⟨.move (.loc 1), none, none, true⟩, ⟨.move (.var 7), none, none, true⟩, ⟨.move (.var 1), none, none, true⟩, ⟨.move (.var 9), none, none, true⟩, ⟨.bin .sub .no (.loc 5) (.k (.int .i64 1)), none, none, true⟩, ⟨.indexAddr 1 (.loc 4) (.loc 6), (some (2, true)), none, true⟩, ⟨.load none (.loc 7), (some (2, true)), none, true⟩, ⟨.bin .leq .no (.loc 3) (.loc 8), (some (2, true)), none, true⟩, ⟨.pick (.loc 2) (.loc 9) (.k (.bool false)), none, none, true⟩, ⟨.move (.loc 10), none, (some 10), true⟩])
 (.cond (.var 10) ((.seq (.ops [⟨.move (.k (.int .i64 5)), none, (some 2), true⟩])
 (.ret))) (.skip)))))))))))
 (.ops [⟨.bin .add .no (.var 3) (.k (.int .i64 1)), none, none, true⟩, ⟨.move (.loc 0), none, (some 3), true⟩])))))))))))
 ((.seq (.ops [⟨.move (.k (.int .i64 0)), none, (some 2), true⟩])
 (.ret))))))), none⟩
theorem v_batchbisect_setCode {F : Nat → Option RFunc} {me : Nat} (hF : F me = some (rf_batchbisect_setCode )) {fl : Nat} {H : Heap} {Q : AV → Heap → Prop} (n0 : Int) (set1 : AV)
  (h : ∃ len2 : Nat, lenA set1 = some len2 ∧ ∃ (J3 : Nat → Int → Prop) (k4 : Nat), J3 k4 0 ∧ (∀ (m5 : Nat) (v7 : Int), J3 m5 v7 → ((v7 < (len2 : Int)) → ∃ (e13 : Int), getA H 1 none set1 v7 0 = some (.int .i64 e13) ∧ ((((e13 < 0) ∨ (e13 ≥ n0))) → Q (.int .i64 3) H) ∧ (¬(((e13 < 0) ∨ (e13 ≥ n0))) → ((v7 > 0) → ∃ (e15 : Int), getA H 1 none set1 (IntKind.wrap .i64 (v7 - 1)) 0 = some (.int .i64 e15) ∧ ((e13 ≤ e15) → Q (.int .i64 5) H) ∧ (¬(e13 ≤ e15) → ∃ m17 : Nat, m17 < m5 ∧ J3 m17 (IntKind.wrap .i64 (v7 + 1)))) ∧ (¬(v7 > 0) → ∃ m18 : Nat, m18 < m5 ∧ J3 m18 (IntKind.wrap .i64 (v7 + 1))))) ∧ (¬(v7 < (len2 : Int)) → Q (.int .i64 0) H))) : Ret F fl me [(.int .i64 n0), set1] H Q := by
  refine ret_intro hF rfl ?_
  refine w_seq ?_
  refine w_run [0] ?_
  refine t_done [(.int .i64 n0), set1, (.int .i64 0), .undef, .undef, .undef, .undef, .undef, .undef, .undef, .undef] H (by kernel_rfl) ?_
  refine then_norm ?_
  refine w_seq ?_
  refine w_seq ?_
  refine w_run [0, 1, 0] ?_
  obtain ⟨len2, hl, h⟩ := h
  refine t_len true set1 len2 H (by kernel_rfl) hl ?_
  refine t_done [(.int .i64 n0), set1, (.int .i64 0), (.int .i64 0), (.int .i64 (len2 : Int)), .undef, set1, .undef, .undef, .undef, .undef] H (by kernel_rfl) ?_
  refine then_norm ?_
  refine w_block ?_
  obtain ⟨J3, k4, h0, h⟩ := h
  refine w_loop (I := fun mI EI HI => ∃ (d6 : AV) (v7 : Int) (d8 : AV) (d9 : AV) (d10 : AV) (d11 : AV) (d12 : AV), EI = [(.int .i64 n0), set1, d6, (.int .i64 v7), (.int .i64 (len2 : Int)), d8, set1, d9, d10, d11, d12] ∧ H = HI ∧ J3 mI v7) ?_ k4 ⟨_, _, _, _, _, _, _, rfl, rfl, h0⟩
  clear h0
  rintro m5 EI HI ⟨d6, v7, d8, d9, d10, d11, d12, rfl, rfl, hJ⟩
  replace h := h m5 v7  hJ
  clear hJ
  refine w_seq ?_
  refine w_run [0] ?_
  refine t_done [(.int .i64 n0), set1, d6, (.int .i64 v7), (.int .i64 (len2 : Int)), (.bool (decide (v7 < (len2 : Int)))), set1, d9, d10, d11, d12] H (by kernel_rfl) ?_
  refine then_norm ?_
  refine w_seq ?_
  refine w_cond (t := (decide (v7 < (len2 : Int)))) rfl (fun hc => ?_) (fun hc => ?_)
  · replace h := h.1 (is_dec.t hc)
    refine w_skip ?_
    refine then_norm ?_
    refine w_seq ?_
    refine w_block ?_
    refine w_seq ?_
    refine w_run [0, 1, 1, 0, 0] ?_
    obtain ⟨e13, hg14, h⟩ := h
    refine t_idxG true 1 set1 .i64 v7 H (by kernel_rfl) hg14 ?_
    refine t_loadG true none 1 set1 v7 0 (.int .i64 e13) H (by kernel_rfl) hg14 ?_
    refine t_done [(.int .i64 n0), set1, d6, (.int .i64 v7), (.int .i64 (len2 : Int)), (.bool (decide (v7 < (len2 : Int)))), set1, (.int .i64 e13), d10, (.int .i64 v7), d12] H (by kernel_rfl) ?_
    refine then_norm ?_
    refine w_block ?_
    refine w_seq ?_
    refine w_run [0, 0, 0, 0, 0, 0, 0, 0] ?_
    refine t_done [(.int .i64 n0), set1, d6, (.int .i64 v7), (.int .i64 (len2 : Int)), (.bool (decide (v7 < (len2 : Int)))), set1, (.int .i64 e13), (.bool ((decide (e13 < 0)) || (decide (e13 ≥ n0)))), (.int .i64 v7), d12] H (by kernel_rfl) ?_
    refine then_norm ?_
    refine w_cond (t := ((decide (e13 < 0)) || (decide (e13 ≥ n0)))) rfl (fun hc => ?_) (fun hc => ?_)
    · replace h := h.1 ((is_or is_dec is_dec).t hc)
      refine w_seq ?_
      refine w_run [0] ?_
      refine t_done [(.int .i64 n0), set1, (.int .i64 3), (.int .i64 v7), (.int .i64 (len2 : Int)), (.bool (decide (v7 < (len2 : Int)))), set1, (.int .i64 e13), (.bool ((decide (e13 < 0)) || (decide (e13 ≥ n0)))), (.int .i64 v7), d12] H (by kernel_rfl) ?_
      refine then_norm ?_
      refine w_ret ?_
      refine block_ret ?_
      refine block_ret ?_
      refine then_ret ?_
      refine loop_ret ?_
      refine block_ret ?_
      refine then_ret ?_
      exact body_ret (vs := [(.int .i64 3)]) _ (by kernel_rfl) rfl h
    · replace h := h.2 ((is_or is_dec is_dec).f hc)
      refine w_seq ?_
      refine w_run [0, 0, 0, 0, 0, 0, 0, 3, 3, 2, 0, 0] ?_
      refine t_gd (decide (v7 > 0)) true (by kernel_rfl) (fun hc => ?_) (fun hc => ?_)
      · replace h := h.1 (is_dec.t hc)
        obtain ⟨e15, hg16, h⟩ := h
        refine t_idxG true 1 set1 .i64 (IntKind.wrap .i64 (v7 - 1)) H (by kernel_rfl) hg16 ?_
        refine t_gd true true (by kernel_rfl) (fun _ => ?_) (fun hn => by cases hn)
        refine t_loadG true none 1 set1 (IntKind.wrap .i64 (v7 - 1)) 0 (.int .i64 e15) H (by kernel_rfl) hg16 ?_
        refine t_gd true true (by kernel_rfl) (fun _ => ?_) (fun hn => by cases hn)
        refine t_done [(.int .i64 n0), set1, d6, (.int .i64 v7), (.int .i64 (len2 : Int)), (.bool (decide (v7 < (len2 : Int)))), set1, (.int .i64 e13), (.bool ((decide (e13 < 0)) || (decide (e13 ≥ n0)))), (.int .i64 v7), (.bool (decide (e13 ≤ e15)))] H (by kernel_rfl) ?_
        refine then_norm ?_
        refine w_cond (t := (decide (e13 ≤ e15))) rfl (fun hc => ?_) (fun hc => ?_)
        · replace h := h.1 (is_dec.t hc)
          refine w_seq ?_
          refine w_run [0] ?_
          refine t_done [(.int .i64 n0), set1, (.int .i64 5), (.int .i64 v7), (.int .i64 (len2 : Int)), (.bool (decide (v7 < (len2 : Int)))), set1, (.int .i64 e13), (.bool ((decide (e13 < 0)) || (decide (e13 ≥ n0)))), (.int .i64 v7), (.bool (decide (e13 ≤ e15)))] H (by kernel_rfl) ?_
          refine then_norm ?_
          refine w_ret ?_
          refine block_ret ?_
          refine block_ret ?_
          refine then_ret ?_
          refine loop_ret ?_
          refine block_ret ?_
          refine then_ret ?_
          exact body_ret (vs := [(.int .i64 5)]) _ (by kernel_rfl) rfl h
        · replace h := h.2 (is_dec.f hc)
          refine w_skip ?_
          refine block_norm ?_
          refine block_norm ?_
          refine then_norm ?_
          refine w_run [0, 0] ?_
          refine t_done [(.int .i64 n0), set1, d6, (.int .i64 (IntKind.wrap .i64 (v7 + 1))), (.int .i64 (len2 : Int)), (.bool (decide (v7 < (len2 : Int)))), set1, (.int .i64 e13), (.bool ((decide (e13 < 0)) || (decide (e13 ≥ n0)))), (.int .i64 v7), (.bool (decide (e13 ≤ e15)))] H (by kernel_rfl) ?_
          obtain ⟨m', hm, h⟩ := h
          refine loop_norm ⟨m', hm, _, _, _, _, _, _, _, rfl, rfl, h⟩
      · replace h := h.2 (is_dec.f hc)
        refine t_gd false true (by kernel_rfl) (fun hn => by cases hn) (fun _ => ?_)
        refine t_gd false true (by kernel_rfl) (fun hn => by cases hn) (fun _ => ?_)
        refine t_done [(.int .i64 n0), set1, d6, (.int .i64 v7), (.int .i64 (len2 : Int)), (.bool (decide (v7 < (len2 : Int)))), set1, (.int .i64 e13), (.bool ((decide (e13 < 0)) || (decide (e13 ≥ n0)))), (.int .i64 v7), (.bool false)] H (by kernel_rfl) ?_
        refine then_norm ?_
        refine w_cond (t := false) rfl (fun hc => by cases hc) (fun _ => ?_)
        refine w_skip ?_
        refine block_norm ?_
        refine block_norm ?_
        refine then_norm ?_
        refine w_run [0, 0] ?_
        refine t_done [(.int .i64 n0), set1, d6, (.int .i64 (IntKind.wrap .i64 (v7 + 1))), (.int .i64 (len2 : Int)), (.bool (decide (v7 < (len2 : Int)))), set1, (.int .i64 e13), (.bool ((decide (e13 < 0)) || (decide (e13 ≥ n0)))), (.int .i64 v7), (.bool false)] H (by kernel_rfl) ?_
        obtain ⟨m', hm, h⟩ := h
        refine loop_norm ⟨m', hm, _, _, _, _, _, _, _, rfl, rfl, h⟩
  · replace h := h.2 (is_dec.f hc)
    refine w_exit ?_
    refine then_exit ?_
    refine loop_exit ?_
    refine block_exit ?_
    refine then_norm ?_
    refine w_seq ?_
    refine w_run [0] ?_
    refine t_done [(.int .i64 n0), set1, (.int .i64 0), (.int .i64 v7), (.int .i64 (len2 : Int)), (.bool (decide (v7 < (len2 : Int)))), set1, d9, d10, d11, d12] H (by kernel_rfl) ?_
    refine then_norm ?_
    refine w_ret ?_
    exact body_ret (vs := [(.int .i64 0)]) _ (by kernel_rfl) rfl h

def rf_batchbisect_Failing (nbatchbisect_Failingx1 nslices_ContainsFunc___int__int : Nat) : RFunc := ⟨2, 4, [.var 2],
 ((.seq (.ops [⟨.box 1 (.var 1), none, (some 3), true⟩, ⟨.move (.k (.bool false)), none, (some 2), true⟩])
 ((.seq (.ops [⟨.move (.var 0), none, none, true⟩, ⟨.makeFunc nbatchbisect_Failingx1 [(.var 3)], none, none, true⟩, ⟨.callS nslices_ContainsFunc___int__int [(.loc 0), (.loc 1)], none, none, true⟩, ⟨.move (.loc 2), none, (some 2), true⟩])
 (.ret))))), none⟩
theorem v_batchbisect_Failing {F : Nat → Option RFunc} {me nbatchbisect_Failingx1 nslices_ContainsFunc___int__int : Nat} (hF : F me = some (rf_batchbisect_Failing nbatchbisect_Failingx1 nslices_ContainsFunc___int__int)) {fl : Nat} {H : Heap} {Q : AV → Heap → Prop} (culprits0 : AV) (set1 : AV)
  (h : Scal set1 ∧ ∀ (b3 : Nat) (H4 : Heap), NewB H 1 [set1] b3 H4 → Ret F fl nslices_ContainsFunc___int__int [culprits0, (.func nbatchbisect_Failingx1 [(.ptr b3 0)])] H4 (fun v7 H6 => ∃ (r5 : Bool), v7 = (.bool r5) ∧ Q (.bool r5) H6)) : Ret F fl me [culprits0, set1] H Q := by
  refine ret_intro hF rfl ?_
  refine w_seq ?_
  refine w_run [1, 0] ?_
  obtain ⟨hs2, h⟩ := h
  obtain ⟨b3, H4, hb⟩ : ∃ b H', NewB H 1 [set1] b H' := ⟨_, _, rfl, rfl⟩
  replace h := h b3 H4 hb
  refine t_box true 1 set1 [set1] b3 H4 H (by kernel_rfl) hs2.1 hb ?_
  refine t_done [culprits0, set1, (.bool false), (.ptr b3 0)] H4 (by kernel_rfl) ?_
  refine then_norm ?_
  refine w_seq ?_
  refine w_run [0, 0, 1, 0] ?_
  refine t_call true nslices_ContainsFunc___int__int [culprits0, (.func nbatchbisect_Failingx1 [(.ptr b3 0)])] H4 (by kernel_rfl) h ?_
  clear h
  rintro _ H6 ⟨r5, rfl, h⟩
  refine t_done [culprits0, set1, (.bool r5), (.ptr b3 0)] H6 (by kernel_rfl) ?_
  refine then_norm ?_
  refine w_ret ?_
  exact body_ret (vs := [(.bool r5)]) _ (by kernel_rfl) rfl h

def rf_batchbisect_Failingx1 (nbatchbisect_Failingx1x1 nslices_ContainsFunc__int_int : Nat) : RFunc := ⟨2, 3, [.var 2],
 ((.seq (.ops [⟨.move (.k (.bool false)), none, (some 2), true⟩])
 ((.seq (.ops [⟨.move (.var 0), none, none, true⟩, ⟨.makeFunc nbatchbisect_Failingx1x1 [(.var 1)], none, none, true⟩, ⟨.callS nslices_ContainsFunc__int_int [(.loc 0), (.loc 1)], none, none, true⟩, ⟨.un .not (.loc 2), none, none, true⟩, ⟨.move (.loc 3), none, (some 2), true⟩])
 (.ret))))), none⟩
theorem v_batchbisect_Failingx1 {F : Nat → Option RFunc} {me nbatchbisect_Failingx1x1 nslices_ContainsFunc__int_int : Nat} (hF : F me = some (rf_batchbisect_Failingx1 nbatchbisect_Failingx1x1 nslices_ContainsFunc__int_int)) {fl : Nat} {H : Heap} {Q : AV → Heap → Prop} (c0 : AV) (cap1 : AV)
  (h : Ret F fl nslices_ContainsFunc__int_int [c0, (.func nbatchbisect_Failingx1x1 [cap1])] H (fun v4 H3 => ∃ (r2 : Bool), v4 = (.bool r2) ∧ Q (.bool (!r2)) H3)) : Ret F fl me [c0, cap1] H Q := by
  refine ret_intro hF rfl ?_
  refine w_seq ?_
  refine w_run [0] ?_
  refine t_done [c0, cap1, (.bool false)] H (by kernel_rfl) ?_
  refine then_norm ?_
  refine w_seq ?_
  refine w_run [0, 0, 1, 0, 0] ?_
  refine t_call true nslices_ContainsFunc__int_int [c0, (.func nbatchbisect_Failingx1x1 [cap1])] H (by kernel_rfl) h ?_
  clear h
  rintro _ H3 ⟨r2, rfl, h⟩
  refine t_done [c0, cap1, (.bool (!r2))] H3 (by kernel_rfl) ?_
  refine then_norm ?_
  refine w_ret ?_
  exact body_ret (vs := [(.bool (!r2))]) _ (by kernel_rfl) rfl h

def rf_batchbisect_Failingx1x1 (nslices_Contains__int_int : Nat) : RFunc := ⟨2, 3, [.var 2],
 ((.seq (.ops [⟨.move (.k (.bool false)), none, (some 2), true⟩])
 ((.seq (.ops [⟨.load none (.var 1), none, none, true⟩, ⟨.move (.var 0), none, none, true⟩, ⟨.callS nslices_Contains__int_int [(.loc 0), (.loc 1)], none, none, true⟩, ⟨.un .not (.loc 2), none, none, true⟩, ⟨.move (.loc 3), none, (some 2), true⟩])
 (.ret))))), none⟩
theorem v_batchbisect_Failingx1x1 {F : Nat → Option RFunc} {me nslices_Contains__int_int : Nat} (hF : F me = some (rf_batchbisect_Failingx1x1 nslices_Contains__int_int)) {fl : Nat} {H : Heap} {Q : AV → Heap → Prop} (x0 : Int) (cap1 : AV)
  (h : ∃ (b2 : Nat) (o3 : Nat), cap1 = .ptr b2 o3 ∧ ∃ (e4 : AV), rload H none b2 o3 = some e4 ∧ Ret F fl nslices_Contains__int_int [e4, (.int .i64 x0)] H (fun v7 H6 => ∃ (r5 : Bool), v7 = (.bool r5) ∧ Q (.bool (!r5)) H6)) : Ret F fl me [(.int .i64 x0), cap1] H Q := by
  refine ret_intro hF rfl ?_
  refine w_seq ?_
  refine w_run [0] ?_
  refine t_done [(.int .i64 x0), cap1, (.bool false)] H (by kernel_rfl) ?_
  refine then_norm ?_
  refine w_seq ?_
  refine w_run [1, 0, 1, 0, 0] ?_
  obtain ⟨b2, o3, rfl, e4, hl, h⟩ := h
  refine t_load true none b2 o3 e4 H (by kernel_rfl) hl ?_
  refine t_call true nslices_Contains__int_int [e4, (.int .i64 x0)] H (by kernel_rfl) h ?_
  clear h
  rintro _ H6 ⟨r5, rfl, h⟩
  refine t_done [(.int .i64 x0), (.ptr b2 o3), (.bool (!r5))] H6 (by kernel_rfl) ?_
  refine then_norm ?_
  refine w_ret ?_
  exact body_ret (vs := [(.bool (!r5))]) _ (by kernel_rfl) rfl h

def rf_batchbisect_Validate (nbatchbisect_setCode : Nat) : RFunc := ⟨2, 14, [.part 2 (some 2)],
 ((.seq (.ops [⟨.tomb 1 (.k (.agg [.int .i64 0, .int .i64 0])), none, (some 2), true⟩])
 ((.seq (.block 0 ((.seq (.ops [⟨.move (.var 0), none, none, true⟩, ⟨.bin .lss .no (.loc 0) (.k (.int .i64 0)), none, none, true⟩, ⟨.move (.loc 1), none, none, true⟩, ⟨.move (.var 0), none, none, true⟩, ⟨.bin .gtr .no (.loc 3) (.k (.int .i64 16)), none, none, true⟩, ⟨.pick (.loc 2) (.k (.bool true)) (.loc 4), none, none, true⟩, ⟨.move (.loc 5), none, (some 3), true⟩])
 (.cond (.var 3) ((.seq (.ops [⟨.build [.int .i64 0, .int .i64 0] [(0, 1, (.k (.int .i64 3))), (1, 1, (.k (.int .i64 (-1))))], none, none, true⟩, ⟨.upd 2 0 (.var 2) (.loc 0), none, (some 2), true⟩])
 (.ret))) ((.seq (.ops [⟨.move (.var 1), none, none, true⟩, ⟨.len (.loc 0), none, none, true⟩, ⟨.bin .gtr .no (.loc 1) (.k (.int .i64 8)), none, none, true⟩, ⟨.move (.loc 2), none, (some 4), true⟩])
 (.cond (.var 4) ((.seq (.ops [⟨.build [.int .i64 0, .int .i64 0] [(0, 1, (.k (.int .i64 2))), (1, 1, (.k (.int .i64 (-1))))], none, none, true⟩, ⟨.upd 2 0 (.var 2) (.loc 0), none, (some 2), true⟩])
 (.ret))) (.skip))))))))
 ((.seq ((.seq (.ops [⟨.move (.var 1), none, (some 8), true⟩, ⟨.len (.loc 0), none, (some 6), true⟩, ⟨.move (.k (.int .i64 0)), none, (some 5), true⟩])
 (.block 1 (.loop ((.seq (.ops [⟨.bin .lss .no (.var 5) (.var 6), none, (some 7), true⟩])
 ((.seq (.cond (.var 7) (.skip) (.exit 1))
 ((.seq (.block 2 ((.seq (.ops [⟨.move (.var 5), none, none, true⟩, ⟨.indexAddr 1 (.var 8) (.var 5), none, none, true⟩, ⟨.load none (.loc 1), none, none, true⟩, ⟨.move (.loc 0), none, (some 11), true⟩, ⟨.move (.loc 2), none, (some 9), true⟩])
 ((.seq ((.seq (.ops [⟨.move (.var 9), none, none, true⟩, ⟨.len (.loc 0), none, none, true⟩, ⟨.bin .eql .no (.loc 1) (.k (.int .i64 0)), none, (some 10), true⟩])
 (.cond (.var 10) ((.seq (.ops [⟨.move (.var 11), none, none, true⟩, ⟨.build [.int .i64 0, .int .i64 0] [(0, 1, (.k (.int .i64 9))), (1, 1, (.loc 0))], none, none, true⟩, ⟨.upd 2 0 (.var 2) (.loc 1), none, (some 2), true⟩])
 (.ret))) (.skip))))
 ((.seq (.ops [⟨.move (.var 0), none, none, true⟩, ⟨.move (.var 9), none, none, true⟩, ⟨.callS nbatchbisect_setCode [(.loc 0), (.loc 1)], none, none, true⟩, ⟨.move (.loc 2), none, (some 12), true⟩])
 ((.seq (.ops [⟨.move (.var 12), none, none, true⟩, ⟨.bin .neq .no (.loc 0) (.k (.int .i64 0)), none, (some 13), true⟩])
 (.cond (.var 13) ((.seq (.ops [⟨.move (.var 12), none, none, true⟩, ⟨.move (.var 11), none, none, true⟩, ⟨.build [.int .i64 0, .int .i64 0] [(0, 1, (.loc 0)), (1, 1, (.loc 1))], none, none, true⟩, ⟨.upd 2 0 (.var 2) (.loc 2), none, (some 2), true⟩])
 (.ret))) (.skip)))))))))))
 (.ops [⟨.bin .add .no (.var 5) (.k (.int .i64 1)), none, none, true⟩, ⟨.move (.loc 0), none, (some 5), true⟩])))))))))))
 ((.seq (.ops [⟨.build [.int .i64 0, .int .i64 0] [], none, none, true⟩, ⟨.upd 2 0 (.var 2) (.loc 0), none, (some 2), true⟩])
 (.ret))))))))), none⟩
theorem v_batchbisect_Validate {F : Nat → Option RFunc} {me nbatchbisect_setCode : Nat} (hF : F me = some (rf_batchbisect_Validate nbatchbisect_setCode)) {fl : Nat} {H : Heap} {Q : AV → Heap → Prop} (n0 : Int) (culprits1 : AV)
  (h : ∀ (H2 : Heap), Dead1 H 1 H2 → ((((n0 < 0) ∨ (n0 > 16))) → Q (.agg [(.int .i64 3), (.int .i64 (-1))]) H2) ∧ (¬(((n0 < 0) ∨ (n0 > 16))) → ∃ len3 : Nat, lenA culprits1 = some len3 ∧ (((len3 : Int) > 8) → Q (.agg [(.int .i64 2), (.int .i64 (-1))]) H2) ∧ (¬((len3 : Int) > 8) → ∃ len4 : Nat, lenA culprits1 = some len4 ∧ ∃ (J5 : Nat → Int → Int → Int → Heap → Prop) (k6 : Nat), J5 k6 0 0 0 H2 ∧ (∀ (m7 : Nat) (v8 : Int) (v9 : Int) (v10 : Int) (H17 : Heap), J5 m7 v8 v9 v10 H17 → ((v10 < (len4 : Int)) → ∃ (e18 : AV), getA H17 1 none culprits1 v10 0 = some e18 ∧ ∃ len20 : Nat, lenA e18 = some len20 ∧ (((len20 : Int) = 0) → Q (.agg [(.int .i64 9), (.int .i64 v10)]) H17) ∧ (¬((len20 : Int) = 0) → Ret F fl nbatchbisect_setCode [(.int .i64 n0), e18] H17 (fun v23 H22 => ∃ (r21 : Int), v23 = (.int .i64 r21) ∧ ((r21 ≠ 0) → Q (.agg [(.int .i64 r21), (.int .i64 v10)]) H22) ∧ (¬(r21 ≠ 0) → ∃ m24 : Nat, m24 < m7 ∧ J5 m24 v8 v9 (IntKind.wrap .i64 (v10 + 1)) H22)))) ∧ (¬(v10 < (len4 : Int)) → Q (.agg [(.int .i64 0), (.int .i64 0)]) H17))))) : Ret F fl me [(.int .i64 n0), culprits1] H Q := by
  refine ret_intro hF rfl ?_
  refine w_seq ?_
  refine w_run [1] ?_
  obtain ⟨H2, hb⟩ : ∃ H', Dead1 H 1 H' := ⟨_, ⟨rfl⟩⟩
  replace h := h H2 hb
  refine t_tomb true 1 (.agg [(.int .i64 0), (.int .i64 0)]) [(.int .i64 0), (.int .i64 0)] H2 H (by kernel_rfl) rfl hb ?_
  refine t_done [(.int .i64 n0), culprits1, (.agg [(.int .i64 0), (.int .i64 0)]), .undef, .undef, .undef, .undef, .undef, .undef, .undef, .undef, .undef, .undef, .undef] H2 (by kernel_rfl) ?_
  refine then_norm ?_
  refine w_seq ?_
  refine w_block ?_
  refine w_seq ?_
  refine w_run [0, 0, 0, 0, 0, 0, 0] ?_
  refine t_done [(.int .i64 n0), culprits1, (.agg [(.int .i64 0), (.int .i64 0)]), (.bool ((decide (n0 < 0)) || (decide (n0 > 16)))), .undef, .undef, .undef, .undef, .undef, .undef, .undef, .undef, .undef, .undef] H2 (by kernel_rfl) ?_
  refine then_norm ?_
  refine w_cond (t := ((decide (n0 < 0)) || (decide (n0 > 16)))) rfl (fun hc => ?_) (fun hc => ?_)
  · replace h := h.1 ((is_or is_dec is_dec).t hc)
    refine w_seq ?_
    refine w_run [1, 1] ?_
    refine t_build true [(.int .i64 0), (.int .i64 0)] [(0, 1, .loc 0), (1, 1, .loc 1)] [(.int .i64 3), (.int .i64 (-1))] [(.int .i64 3), (.int .i64 (-1))] H2 (by kernel_rfl) (fill_c (vs := [(.int .i64 3)]) (size := 1) rfl (by kernel_rfl) (by kernel_rfl) (fill_c (vs := [(.int .i64 (-1))]) (size := 1) rfl (by kernel_rfl) (by kernel_rfl) (by kernel_rfl))) ?_
    refine t_upd true 2 0 [(.int .i64 0), (.int .i64 0)] (.agg [(.int .i64 3), (.int .i64 (-1))]) [(.int .i64 3), (.int .i64 (-1))] [(.int .i64 3), (.int .i64 (-1))] H2 (by kernel_rfl) rfl (all_c rfl (all_c rfl all_n)) ⟨rfl, Nat.le_of_ble_eq_true (by kernel_rfl), rfl⟩ ?_
    refine t_done [(.int .i64 n0), culprits1, (.agg [(.int .i64 3), (.int .i64 (-1))]), (.bool ((decide (n0 < 0)) || (decide (n0 > 16)))), .undef, .undef, .undef, .undef, .undef, .undef, .undef, .undef, .undef, .undef] H2 (by kernel_rfl) ?_
    refine then_norm ?_
    refine w_ret ?_
    refine block_ret ?_
    refine then_ret ?_
    exact body_ret (vs := [(.agg [(.int .i64 3), (.int .i64 (-1))])]) _ (by kernel_rfl) rfl h
  · replace h := h.2 ((is_or is_dec is_dec).f hc)
    refine w_seq ?_
    refine w_run [0, 1, 0, 0] ?_
    obtain ⟨len3, hl, h⟩ := h
    refine t_len true culprits1 len3 H2 (by kernel_rfl) hl ?_
    refine t_done [(.int .i64 n0), culprits1, (.agg [(.int .i64 0), (.int .i64 0)]), (.bool ((decide (n0 < 0)) || (decide (n0 > 16)))), (.bool (decide ((len3 : Int) > 8))), .undef, .undef, .undef, .undef, .undef, .undef, .undef, .undef, .undef] H2 (by kernel_rfl) ?_
    refine then_norm ?_
    refine w_cond (t := (decide ((len3 : Int) > 8))) rfl (fun hc => ?_) (fun hc => ?_)
    · replace h := h.1 (is_dec.t hc)
      refine w_seq ?_
      refine w_run [1, 1] ?_
      refine t_build true [(.int .i64 0), (.int .i64 0)] [(0, 1, .loc 0), (1, 1, .loc 1)] [(.int .i64 2), (.int .i64 (-1))] [(.int .i64 2), (.int .i64 (-1))] H2 (by kernel_rfl) (fill_c (vs := [(.int .i64 2)]) (size := 1) rfl (by kernel_rfl) (by kernel_rfl) (fill_c (vs := [(.int .i64 (-1))]) (size := 1) rfl (by kernel_rfl) (by kernel_rfl) (by kernel_rfl))) ?_
      refine t_upd true 2 0 [(.int .i64 0), (.int .i64 0)] (.agg [(.int .i64 2), (.int .i64 (-1))]) [(.int .i64 2), (.int .i64 (-1))] [(.int .i64 2), (.int .i64 (-1))] H2 (by kernel_rfl) rfl (all_c rfl (all_c rfl all_n)) ⟨rfl, Nat.le_of_ble_eq_true (by kernel_rfl), rfl⟩ ?_
      refine t_done [(.int .i64 n0), culprits1, (.agg [(.int .i64 2), (.int .i64 (-1))]), (.bool ((decide (n0 < 0)) || (decide (n0 > 16)))), (.bool (decide ((len3 : Int) > 8))), .undef, .undef, .undef, .undef, .undef, .undef, .undef, .undef, .undef] H2 (by kernel_rfl) ?_
      refine then_norm ?_
      refine w_ret ?_
      refine block_ret ?_
      refine then_ret ?_
      exact body_ret (vs := [(.agg [(.int .i64 2), (.int .i64 (-1))])]) _ (by kernel_rfl) rfl h
    · replace h := h.2 (is_dec.f hc)
      refine w_skip ?_
      refine block_norm ?_
      refine then_norm ?_
      refine w_seq ?_
      refine w_seq ?_
      refine w_run [0, 1, 0] ?_
      obtain ⟨len4, hl, h⟩ := h
      refine t_len true culprits1 len4 H2 (by kernel_rfl) hl ?_
      refine t_done [(.int .i64 n0), culprits1, (.agg [(.int .i64 0), (.int .i64 0)]), (.bool ((decide (n0 < 0)) || (decide (n0 > 16)))), (.bool (decide ((len3 : Int) > 8))), (.int .i64 0), (.int .i64 (len4 : Int)), .undef, culprits1, .undef, .undef, .undef, .undef, .undef] H2 (by kernel_rfl) ?_
      refine then_norm ?_
      refine w_block ?_
      obtain ⟨J5, k6, h0, h⟩ := h
      refine w_loop (I := fun mI EI HI => ∃ (v8 : Int) (v9 : Int) (v10 : Int) (d11 : AV) (d12 : AV) (d13 : AV) (d14 : AV) (d15 : AV) (d16 : AV), EI = [(.int .i64 n0), culprits1, (.agg [(.int .i64 v8), (.int .i64 v9)]), (.bool ((decide (n0 < 0)) || (decide (n0 > 16)))), (.bool (decide ((len3 : Int) > 8))), (.int .i64 v10), (.int .i64 (len4 : Int)), d11, culprits1, d12, d13, d14, d15, d16] ∧ J5 mI v8 v9 v10 HI) ?_ k6 ⟨_, _, _, _, _, _, _, _, _, rfl, h0⟩
      clear h0
      rintro m7 EI H17 ⟨v8, v9, v10, d11, d12, d13, d14, d15, d16, rfl, hJ⟩
      replace h := h m7 v8 v9 v10 H17 hJ
      clear hJ
      refine w_seq ?_
      refine w_run [0] ?_
      refine t_done [(.int .i64 n0), culprits1, (.agg [(.int .i64 v8), (.int .i64 v9)]), (.bool ((decide (n0 < 0)) || (decide (n0 > 16)))), (.bool (decide ((len3 : Int) > 8))), (.int .i64 v10), (.int .i64 (len4 : Int)), (.bool (decide (v10 < (len4 : Int)))), culprits1, d12, d13, d14, d15, d16] H17 (by kernel_rfl) ?_
      refine then_norm ?_
      refine w_seq ?_
      refine w_cond (t := (decide (v10 < (len4 : Int)))) rfl (fun hc => ?_) (fun hc => ?_)
      · replace h := h.1 (is_dec.t hc)
        refine w_skip ?_
        refine then_norm ?_
        refine w_seq ?_
        refine w_block ?_
        refine w_seq ?_
        refine w_run [0, 1, 1, 0, 0] ?_
        obtain ⟨e18, hg19, h⟩ := h
        refine t_idxG true 1 culprits1 .i64 v10 H17 (by kernel_rfl) hg19 ?_
        refine t_loadG true none 1 culprits1 v10 0 e18 H17 (by kernel_rfl) hg19 ?_
        refine t_done [(.int .i64 n0), culprits1, (.agg [(.int .i64 v8), (.int .i64 v9)]), (.bool ((decide (n0 < 0)) || (decide (n0 > 16)))), (.bool (decide ((len3 : Int) > 8))), (.int .i64 v10), (.int .i64 (len4 : Int)), (.bool (decide (v10 < (len4 : Int)))), culprits1, e18, d13, (.int .i64 v10), d15, d16] H17 (by kernel_rfl) ?_
        refine then_norm ?_
        refine w_seq ?_
        refine w_seq ?_
        refine w_run [0, 1, 0] ?_
        obtain ⟨len20, hl, h⟩ := h
        refine t_len true e18 len20 H17 (by kernel_rfl) hl ?_
        refine t_done [(.int .i64 n0), culprits1, (.agg [(.int .i64 v8), (.int .i64 v9)]), (.bool ((decide (n0 < 0)) || (decide (n0 > 16)))), (.bool (decide ((len3 : Int) > 8))), (.int .i64 v10), (.int .i64 (len4 : Int)), (.bool (decide (v10 < (len4 : Int)))), culprits1, e18, (.bool ((len20 : Int) == 0)), (.int .i64 v10), d15, d16] H17 (by kernel_rfl) ?_
        refine then_norm ?_
        refine w_cond (t := ((len20 : Int) == 0)) rfl (fun hc => ?_) (fun hc => ?_)
        · replace h := h.1 (is_eq.t hc)
          refine w_seq ?_
          refine w_run [0, 1, 1] ?_
          refine t_build true [(.int .i64 0), (.int .i64 0)] [(0, 1, .loc 0), (1, 1, .loc 1)] [(.int .i64 9), (.int .i64 v10)] [(.int .i64 9), (.int .i64 v10)] H17 (by kernel_rfl) (fill_c (vs := [(.int .i64 9)]) (size := 1) rfl (by kernel_rfl) (by kernel_rfl) (fill_c (vs := [(.int .i64 v10)]) (size := 1) rfl (by kernel_rfl) (by kernel_rfl) (by kernel_rfl))) ?_
          refine t_upd true 2 0 [(.int .i64 v8), (.int .i64 v9)] (.agg [(.int .i64 9), (.int .i64 v10)]) [(.int .i64 9), (.int .i64 v10)] [(.int .i64 9), (.int .i64 v10)] H17 (by kernel_rfl) rfl (all_c rfl (all_c rfl all_n)) ⟨rfl, Nat.le_of_ble_eq_true (by kernel_rfl), rfl⟩ ?_
          refine t_done [(.int .i64 n0), culprits1, (.agg [(.int .i64 9), (.int .i64 v10)]), (.bool ((decide (n0 < 0)) || (decide (n0 > 16)))), (.bool (decide ((len3 : Int) > 8))), (.int .i64 v10), (.int .i64 (len4 : Int)), (.bool (decide (v10 < (len4 : Int)))), culprits1, e18, (.bool ((len20 : Int) == 0)), (.int .i64 v10), d15, d16] H17 (by kernel_rfl) ?_
          refine then_norm ?_
          refine w_ret ?_
          refine then_ret ?_
          refine block_ret ?_
          refine then_ret ?_
          refine loop_ret ?_
          refine block_ret ?_
          refine then_ret ?_
          exact body_ret (vs := [(.agg [(.int .i64 9), (.int .i64 v10)])]) _ (by kernel_rfl) rfl h
        · replace h := h.2 (is_eq.f hc)
          refine w_skip ?_
          refine then_norm ?_
          refine w_seq ?_
          refine w_run [0, 0, 1, 0] ?_
          refine t_call true nbatchbisect_setCode [(.int .i64 n0), e18] H17 (by kernel_rfl) h ?_
          clear h
          rintro _ H22 ⟨r21, rfl, h⟩
          refine t_done [(.int .i64 n0), culprits1, (.agg [(.int .i64 v8), (.int .i64 v9)]), (.bool ((decide (n0 < 0)) || (decide (n0 > 16)))), (.bool (decide ((len3 : Int) > 8))), (.int .i64 v10), (.int .i64 (len4 : Int)), (.bool (decide (v10 < (len4 : Int)))), culprits1, e18, (.bool ((len20 : Int) == 0)), (.int .i64 v10), (.int .i64 r21), d16] H22 (by kernel_rfl) ?_
          refine then_norm ?_
          refine w_seq ?_
          refine w_run [0, 0] ?_
          refine t_done [(.int .i64 n0), culprits1, (.agg [(.int .i64 v8), (.int .i64 v9)]), (.bool ((decide (n0 < 0)) || (decide (n0 > 16)))), (.bool (decide ((len3 : Int) > 8))), (.int .i64 v10), (.int .i64 (len4 : Int)), (.bool (decide (v10 < (len4 : Int)))), culprits1, e18, (.bool ((len20 : Int) == 0)), (.int .i64 v10), (.int .i64 r21), (.bool (r21 != 0))] H22 (by kernel_rfl) ?_
          refine then_norm ?_
          refine w_cond (t := (r21 != 0)) rfl (fun hc => ?_) (fun hc => ?_)
          · replace h := h.1 (is_ne.t hc)
            refine w_seq ?_
            refine w_run [0, 0, 1, 1] ?_
            refine t_build true [(.int .i64 0), (.int .i64 0)] [(0, 1, .loc 0), (1, 1, .loc 1)] [(.int .i64 r21), (.int .i64 v10)] [(.int .i64 r21), (.int .i64 v10)] H22 (by kernel_rfl) (fill_c (vs := [(.int .i64 r21)]) (size := 1) rfl (by kernel_rfl) (by kernel_rfl) (fill_c (vs := [(.int .i64 v10)]) (size := 1) rfl (by kernel_rfl) (by kernel_rfl) (by kernel_rfl))) ?_
            refine t_upd true 2 0 [(.int .i64 v8), (.int .i64 v9)] (.agg [(.int .i64 r21), (.int .i64 v10)]) [(.int .i64 r21), (.int .i64 v10)] [(.int .i64 r21), (.int .i64 v10)] H22 (by kernel_rfl) rfl (all_c rfl (all_c rfl all_n)) ⟨rfl, Nat.le_of_ble_eq_true (by kernel_rfl), rfl⟩ ?_
            refine t_done [(.int .i64 n0), culprits1, (.agg [(.int .i64 r21), (.int .i64 v10)]), (.bool ((decide (n0 < 0)) || (decide (n0 > 16)))), (.bool (decide ((len3 : Int) > 8))), (.int .i64 v10), (.int .i64 (len4 : Int)), (.bool (decide (v10 < (len4 : Int)))), culprits1, e18, (.bool ((len20 : Int) == 0)), (.int .i64 v10), (.int .i64 r21), (.bool (r21 != 0))] H22 (by kernel_rfl) ?_
            refine then_norm ?_
            refine w_ret ?_
            refine block_ret ?_
            refine then_ret ?_
            refine loop_ret ?_
            refine block_ret ?_
            refine then_ret ?_
            exact body_ret (vs := [(.agg [(.int .i64 r21), (.int .i64 v10)])]) _ (by kernel_rfl) rfl h
          · replace h := h.2 (is_ne.f hc)
            refine w_skip ?_
            refine block_norm ?_
            refine then_norm ?_
            refine w_run [0, 0] ?_
            refine t_done [(.int .i64 n0), culprits1, (.agg [(.int .i64 v8), (.int .i64 v9)]), (.bool ((decide (n0 < 0)) || (decide (n0 > 16)))), (.bool (decide ((len3 : Int) > 8))), (.int .i64 (IntKind.wrap .i64 (v10 + 1))), (.int .i64 (len4 : Int)), (.bool (decide (v10 < (len4 : Int)))), culprits1, e18, (.bool ((len20 : Int) == 0)), (.int .i64 v10), (.int .i64 r21), (.bool (r21 != 0))] H22 (by kernel_rfl) ?_
            obtain ⟨m', hm, h⟩ := h
            refine loop_norm ⟨m', hm, _, _, _, _, _, _, _, _, _, rfl, h⟩
      · replace h := h.2 (is_dec.f hc)
        refine w_exit ?_
        refine then_exit ?_
        refine loop_exit ?_
        refine block_exit ?_
        refine then_norm ?_
        refine w_seq ?_
        refine w_run [1, 1] ?_
        refine t_build true [(.int .i64 0), (.int .i64 0)] [] [] [(.int .i64 0), (.int .i64 0)] H17 (by kernel_rfl) (by kernel_rfl) ?_
        refine t_upd true 2 0 [(.int .i64 v8), (.int .i64 v9)] (.agg [(.int .i64 0), (.int .i64 0)]) [(.int .i64 0), (.int .i64 0)] [(.int .i64 0), (.int .i64 0)] H17 (by kernel_rfl) rfl (all_c rfl (all_c rfl all_n)) ⟨rfl, Nat.le_of_ble_eq_true (by kernel_rfl), rfl⟩ ?_
        refine t_done [(.int .i64 n0), culprits1, (.agg [(.int .i64 0), (.int .i64 0)]), (.bool ((decide (n0 < 0)) || (decide (n0 > 16)))), (.bool (decide ((len3 : Int) > 8))), (.int .i64 v10), (.int .i64 (len4 : Int)), (.bool (decide (v10 < (len4 : Int)))), culprits1, d12, d13, d14, d15, d16] H17 (by kernel_rfl) ?_
        refine then_norm ?_
        refine w_ret ?_
        exact body_ret (vs := [(.agg [(.int .i64 0), (.int .i64 0)])]) _ (by kernel_rfl) rfl h

def rf_batchbisect_Fails (nbatchbisect_Validate nbatchbisect_setCode nbatchbisect_Failing : Nat) : RFunc := ⟨3, 9, [.var 3, .part 4 (some 2)],
 ((.seq (.ops [⟨.move (.k (.bool false)), none, (some 3), true⟩, ⟨.tomb 1 (.k (.agg [.int .i64 0, .int .i64 0])), none, (some 4), true⟩])
 ((.seq ((.seq (.ops [⟨.move (.var 0), none, none, true⟩, ⟨.move (.var 1), none, none, true⟩, ⟨.callS nbatchbisect_Validate [(.loc 0), (.loc 1)], none, none, true⟩, ⟨.tomb 1 (.k (.agg [.int .i64 0, .int .i64 0])), none, (some 5), true⟩, ⟨.upd 2 0 (.loc 3) (.loc 2), none, (some 5), true⟩])
 ((.seq (.ops [⟨.field 0 (some 2) (.var 5), none, none, true⟩, ⟨.build [.int .i64 0, .int .i64 0] [], none, none, true⟩, ⟨.bin .neq (.agg [.int, .int]) (.loc 0) (.loc 1), none, (some 6), true⟩])
 (.cond (.var 6) ((.seq (.ops [⟨.field 0 (some 2) (.var 5), none, none, true⟩, ⟨.move (.k (.bool false)), none, (some 3), false⟩, ⟨.upd 2 0 (.var 4) (.loc 0), none, (some 4), true⟩])
 (.ret))) (.skip))))))
 ((.seq ((.seq (.ops [⟨.move (.var 0), none, none, true⟩, ⟨.move (.var 2), none, none, true⟩, ⟨.callS nbatchbisect_setCode [(.loc 0), (.loc 1)], none, none, true⟩, ⟨.move (.loc 2), none, (some 7), true⟩])
 ((.seq (.ops [⟨.move (.var 7), none, none, true⟩, ⟨.bin .neq .no (.loc 0) (.k (.int .i64 0)), none, (some 8), true⟩])
 (.cond (.var 8) ((.seq (.ops [⟨.move (.var 7), none, none, true⟩, ⟨.build [.int .i64 0, .int .i64 0] [(0, 1, (.loc 0)), (1, 1, (.k (.int .i64 (-2))))], none, none, true⟩, ⟨.move (.k (.bool false)), none, (some 3), true⟩, ⟨.upd 2 0 (.var 4) (.loc 1), none, (some 4), true⟩])
 (.ret))) (.skip))))))
 ((.seq (.ops [⟨.move (.var 1), none, none, true⟩, ⟨.move (.var 2), none, none, true⟩, ⟨.callS nbatchbisect_Failing [(.loc 0), (.loc 1)], none, none, true⟩, ⟨.build [.int .i64 0, .int .i64 0] [], none, none, true⟩, ⟨.move (.loc 2), none, (some 3), true⟩, ⟨.upd 2 0 (.var 4) (.loc 3), none, (some 4), true⟩])
 (.ret))))))))), none⟩
theorem v_batchbisect_Fails {F : Nat → Option RFunc} {me nbatchbisect_Validate nbatchbisect_setCode nbatchbisect_Failing : Nat} (hF : F me = some (rf_batchbisect_Fails nbatchbisect_Validate nbatchbisect_setCode nbatchbisect_Failing)) {fl : Nat} {H : Heap} {Q : AV → Heap → Prop} (n0 : Int) (culprits1 : AV) (set2 : AV)
  (h : ∀ (H3 : Heap), Dead1 H 1 H3 → Ret F fl nbatchbisect_Validate [(.int .i64 n0), culprits1] H3 (fun v7 H6 => ∃ (r4 : Int) (r5 : Int), v7 = (.agg [(.int .i64 r4), (.int .i64 r5)]) ∧ ∀ (H8 : Heap), Dead1 H6 1 H8 → ((¬(((r4 = 0) ∧ (((r5 = 0) ∧ (True)))))) → Q (.tuple [(.bool false), (.agg [(.int .i64 r4), (.int .i64 r5)])]) H8) ∧ (¬(¬(((r4 = 0) ∧ (((r5 = 0) ∧ (True)))))) → Ret F fl nbatchbisect_setCode [(.int .i64 n0), set2] H8 (fun v11 H10 => ∃ (r9 : Int), v11 = (.int .i64 r9) ∧ ((r9 ≠ 0) → Q (.tuple [(.bool false), (.agg [(.int .i64 r9), (.int .i64 (-2))])]) H10) ∧ (¬(r9 ≠ 0) → Ret F fl nbatchbisect_Failing [culprits1, set2] H10 (fun v14 H13 => ∃ (r12 : Bool), v14 = (.bool r12) ∧ Q (.tuple [(.bool r12), (.agg [(.int .i64 0), (.int .i64 0)])]) H13)))))) : Ret F fl me [(.int .i64 n0), culprits1, set2] H Q := by
  refine ret_intro hF rfl ?_
  refine w_seq ?_
  refine w_run [0, 1] ?_
  obtain ⟨H3, hb⟩ : ∃ H', Dead1 H 1 H' := ⟨_, ⟨rfl⟩⟩
  replace h := h H3 hb
  refine t_tomb true 1 (.agg [(.int .i64 0), (.int .i64 0)]) [(.int .i64 0), (.int .i64 0)] H3 H (by kernel_rfl) rfl hb ?_
  refine t_done [(.int .i64 n0), culprits1, set2, (.bool false), (.agg [(.int .i64 0), (.int .i64 0)]), .undef, .undef, .undef, .undef] H3 (by kernel_rfl) ?_
  refine then_norm ?_
  refine w_seq ?_
  refine w_seq ?_
  refine w_run [0, 0, 1, 1, 1] ?_
  refine t_call true nbatchbisect_Validate [(.int .i64 n0), culprits1] H3 (by kernel_rfl) h ?_
  clear h
  rintro _ H6 ⟨r4, r5, rfl, h⟩
  obtain ⟨H8, hb⟩ : ∃ H', Dead1 H6 1 H' := ⟨_, ⟨rfl⟩⟩
  replace h := h H8 hb
  refine t_tomb true 1 (.agg [(.int .i64 0), (.int .i64 0)]) [(.int .i64 0), (.int .i64 0)] H8 H6 (by kernel_rfl) rfl hb ?_
  refine t_upd true 2 0 [(.int .i64 0), (.int .i64 0)] (.agg [(.int .i64 r4), (.int .i64 r5)]) [(.int .i64 r4), (.int .i64 r5)] [(.int .i64 r4), (.int .i64 r5)] H8 (by kernel_rfl) rfl (all_c rfl (all_c rfl all_n)) ⟨rfl, Nat.le_of_ble_eq_true (by kernel_rfl), rfl⟩ ?_
  refine t_done [(.int .i64 n0), culprits1, set2, (.bool false), (.agg [(.int .i64 0), (.int .i64 0)]), (.agg [(.int .i64 r4), (.int .i64 r5)]), .undef, .undef, .undef] H8 (by kernel_rfl) ?_
  refine then_norm ?_
  refine w_seq ?_
  refine w_run [0, 1, 0] ?_
  refine t_build true [(.int .i64 0), (.int .i64 0)] [] [] [(.int .i64 0), (.int .i64 0)] H8 (by kernel_rfl) (by kernel_rfl) ?_
  refine t_done [(.int .i64 n0), culprits1, set2, (.bool false), (.agg [(.int .i64 0), (.int .i64 0)]), (.agg [(.int .i64 r4), (.int .i64 r5)]), (.bool (!((r4 == 0) && ((r5 == 0) && true)))), .undef, .undef] H8 (by kernel_rfl) ?_
  refine then_norm ?_
  refine w_cond (t := (!((r4 == 0) && ((r5 == 0) && true)))) rfl (fun hc => ?_) (fun hc => ?_)
  · replace h := h.1 ((is_not (is_and is_eq (is_and is_eq is_true))).t hc)
    refine w_seq ?_
    refine w_run [0, 0, 1] ?_
    refine t_upd true 2 0 [(.int .i64 0), (.int .i64 0)] (.agg [(.int .i64 r4), (.int .i64 r5)]) [(.int .i64 r4), (.int .i64 r5)] [(.int .i64 r4), (.int .i64 r5)] H8 (by kernel_rfl) rfl (all_c rfl (all_c rfl all_n)) ⟨rfl, Nat.le_of_ble_eq_true (by kernel_rfl), rfl⟩ ?_
    refine t_done [(.int .i64 n0), culprits1, set2, (.bool false), (.agg [(.int .i64 r4), (.int .i64 r5)]), (.agg [(.int .i64 r4), (.int .i64 r5)]), (.bool (!((r4 == 0) && ((r5 == 0) && true)))), .undef, .undef] H8 (by kernel_rfl) ?_
    refine then_norm ?_
    refine w_ret ?_
    refine then_ret ?_
    exact body_ret (vs := [(.bool false), (.agg [(.int .i64 r4), (.int .i64 r5)])]) _ (by kernel_rfl) rfl h
  · replace h := h.2 ((is_not (is_and is_eq (is_and is_eq is_true))).f hc)
    refine w_skip ?_
    refine then_norm ?_
    refine w_seq ?_
    refine w_seq ?_
    refine w_run [0, 0, 1, 0] ?_
    refine t_call true nbatchbisect_setCode [(.int .i64 n0), set2] H8 (by kernel_rfl) h ?_
    clear h
    rintro _ H10 ⟨r9, rfl, h⟩
    refine t_done [(.int .i64 n0), culprits1, set2, (.bool false), (.agg [(.int .i64 0), (.int .i64 0)]), (.agg [(.int .i64 r4), (.int .i64 r5)]), (.bool (!((r4 == 0) && ((r5 == 0) && true)))), (.int .i64 r9), .undef] H10 (by kernel_rfl) ?_
    refine then_norm ?_
    refine w_seq ?_
    refine w_run [0, 0] ?_
    refine t_done [(.int .i64 n0), culprits1, set2, (.bool false), (.agg [(.int .i64 0), (.int .i64 0)]), (.agg [(.int .i64 r4), (.int .i64 r5)]), (.bool (!((r4 == 0) && ((r5 == 0) && true)))), (.int .i64 r9), (.bool (r9 != 0))] H10 (by kernel_rfl) ?_
    refine then_norm ?_
    refine w_cond (t := (r9 != 0)) rfl (fun hc => ?_) (fun hc => ?_)
    · replace h := h.1 (is_ne.t hc)
      refine w_seq ?_
      refine w_run [0, 1, 0, 1] ?_
      refine t_build true [(.int .i64 0), (.int .i64 0)] [(0, 1, .loc 0), (1, 1, .loc 1)] [(.int .i64 r9), (.int .i64 (-2))] [(.int .i64 r9), (.int .i64 (-2))] H10 (by kernel_rfl) (fill_c (vs := [(.int .i64 r9)]) (size := 1) rfl (by kernel_rfl) (by kernel_rfl) (fill_c (vs := [(.int .i64 (-2))]) (size := 1) rfl (by kernel_rfl) (by kernel_rfl) (by kernel_rfl))) ?_
      refine t_upd true 2 0 [(.int .i64 0), (.int .i64 0)] (.agg [(.int .i64 r9), (.int .i64 (-2))]) [(.int .i64 r9), (.int .i64 (-2))] [(.int .i64 r9), (.int .i64 (-2))] H10 (by kernel_rfl) rfl (all_c rfl (all_c rfl all_n)) ⟨rfl, Nat.le_of_ble_eq_true (by kernel_rfl), rfl⟩ ?_
      refine t_done [(.int .i64 n0), culprits1, set2, (.bool false), (.agg [(.int .i64 r9), (.int .i64 (-2))]), (.agg [(.int .i64 r4), (.int .i64 r5)]), (.bool (!((r4 == 0) && ((r5 == 0) && true)))), (.int .i64 r9), (.bool (r9 != 0))] H10 (by kernel_rfl) ?_
      refine then_norm ?_
      refine w_ret ?_
      refine then_ret ?_
      exact body_ret (vs := [(.bool false), (.agg [(.int .i64 r9), (.int .i64 (-2))])]) _ (by kernel_rfl) rfl h
    · replace h := h.2 (is_ne.f hc)
      refine w_skip ?_
      refine then_norm ?_
      refine w_seq ?_
      refine w_run [0, 0, 1, 1, 0, 1] ?_
      refine t_call true nbatchbisect_Failing [culprits1, set2] H10 (by kernel_rfl) h ?_
      clear h
      rintro _ H13 ⟨r12, rfl, h⟩
      refine t_build true [(.int .i64 0), (.int .i64 0)] [] [] [(.int .i64 0), (.int .i64 0)] H13 (by kernel_rfl) (by kernel_rfl) ?_
      refine t_upd true 2 0 [(.int .i64 0), (.int .i64 0)] (.agg [(.int .i64 0), (.int .i64 0)]) [(.int .i64 0), (.int .i64 0)] [(.int .i64 0), (.int .i64 0)] H13 (by kernel_rfl) rfl (all_c rfl (all_c rfl all_n)) ⟨rfl, Nat.le_of_ble_eq_true (by kernel_rfl), rfl⟩ ?_
      refine t_done [(.int .i64 n0), culprits1, set2, (.bool r12), (.agg [(.int .i64 0), (.int .i64 0)]), (.agg [(.int .i64 r4), (.int .i64 r5)]), (.bool (!((r4 == 0) && ((r5 == 0) && true)))), (.int .i64 r9), (.bool (r9 != 0))] H13 (by kernel_rfl) ?_
      refine then_norm ?_
      refine w_ret ?_
      exact body_ret (vs := [(.bool r12), (.agg [(.int .i64 0), (.int .i64 0)])]) _ (by kernel_rfl) rfl h

def rf_batchbisect_Greedy (nbatchbisect_Validate nbatchbisect_Failing : Nat) : RFunc := ⟨2, 13, [.var 2, .part 3 (some 2)],
 ((.seq (.ops [⟨.move (.k (.empty)), none, (some 2), true⟩, ⟨.tomb 1 (.k (.agg [.int .i64 0, .int .i64 0])), none, (some 3), true⟩])
 ((.seq ((.seq (.ops [⟨.move (.var 0), none, none, true⟩, ⟨.move (.var 1), none, none, true⟩, ⟨.callS nbatchbisect_Validate [(.loc 0), (.loc 1)], none, none, true⟩, ⟨.tomb 1 (.k (.agg [.int .i64 0, .int .i64 0])), none, (some 4), true⟩, ⟨.upd 2 0 (.loc 3) (.loc 2), none, (some 4), true⟩])
 ((.seq (.ops [⟨.field 0 (some 2) (.var 4), none, none, true⟩, ⟨.build [.int .i64 0, .int .i64 0] [], none, none, true⟩, ⟨.bin .neq (.agg [.int, .int]) (.loc 0) (.loc 1), none, (some 5), true⟩])
 (.cond (.var 5) ((.seq (.ops [⟨.field 0 (some 2) (.var 4), none, none, true⟩, ⟨.move (.k (.empty)), none, (some 2), false⟩, ⟨.upd 2 0 (.var 3) (.loc 0), none, (some 3), true⟩])
 (.ret))) (.skip))))))
 ((.seq (.ops [⟨.move (.k (.empty)), none, (some 9), true⟩])
 ((.seq ((.seq (.ops [⟨.move (.var 0), none, (some 7), true⟩, ⟨.move (.k (.int .i64 0)), none, (some 6), true⟩])
 (.block 0 (.loop ((.seq (.ops [⟨.bin .lss .no (.var 6) (.var 7), none, (some 8), true⟩])
 ((.seq (.cond (.var 8) (.skip) (.exit 0))
 ((.seq (.block 1 ((.seq (.ops [⟨.move (.var 6), none, none, true⟩, ⟨.move (.loc 0), none, (some 10), true⟩])
 ((.seq (.ops [⟨.move (.var 9), none, none, true⟩, ⟨.move (.var 10), none, none, true⟩, ⟨.buildSlice 1 [.int .i64 0] [(0, 1, (.loc 1))] 1, none, none, true⟩, ⟨.append 1 8 (.loc 0) (.loc 2), none, none, true⟩, ⟨.move (.loc 3), none, (some 11), true⟩])
 ((.seq (.ops [⟨.move (.var 1), none, none, true⟩, ⟨.move (.var 11), none, none, true⟩, ⟨.callS nbatchbisect_Failing [(.loc 0), (.loc 1)], none, none, true⟩, ⟨.un .not (.loc 2), none, (some 12), true⟩])
 (.cond (.var 12) (.ops [⟨.move (.var 11), none, none, true⟩, ⟨.move (.loc 0), none, (some 9), true⟩]) (.skip)))))))))
 (.ops [⟨.bin .add .no (.var 6) (.k (.int .i64 1)), none, none, true⟩, ⟨.move (.loc 0), none, (some 6), true⟩])))))))))))
 ((.seq (.ops [⟨.move (.var 9), none, none, true⟩, ⟨.build [.int .i64 0, .int .i64 0] [], none, none, true⟩, ⟨.move (.loc 0), none, (some 2), true⟩, ⟨.upd 2 0 (.var 3) (.loc 1), none, (some 3), true⟩])
 (.ret))))))))))), none⟩
theorem v_batchbisect_Greedy {F : Nat → Option RFunc} {me nbatchbisect_Validate nbatchbisect_Failing : Nat} (hF : F me = some (rf_batchbisect_Greedy nbatchbisect_Validate nbatchbisect_Failing)) {fl : Nat} {H : Heap} {Q : AV → Heap → Prop} (n0 : Int) (culprits1 : AV)
  (h : ∀ (H2 : Heap), Dead1 H 1 H2 → Ret F fl nbatchbisect_Validate [(.int .i64 n0), culprits1] H2 (fun v6 H5 => ∃ (r3 : Int) (r4 : Int), v6 = (.agg [(.int .i64 r3), (.int .i64 r4)]) ∧ ∀ (H7 : Heap), Dead1 H5 1 H7 → ((¬(((r3 = 0) ∧ (((r4 = 0) ∧ (True)))))) → Q (.tuple [.empty, (.agg [(.int .i64 r3), (.int .i64 r4)])]) H7) ∧ (¬(¬(((r3 = 0) ∧ (((r4 = 0) ∧ (True)))))) → ∃ (J8 : Nat → Int → AV → Heap → Prop) (k9 : Nat), J8 k9 0 .empty H7 ∧ (∀ (m10 : Nat) (v11 : Int) (out13 : AV) (H17 : Heap), J8 m10 v11 out13 H17 → ((v11 < n0) → ∀ (b18 : Nat) (H19 : Heap), NewB H17 1 [(.int .i64 v11)] b18 H19 → ∃ (a20 : AV) (H21 : Heap), appA fl true 1 8 H19 out13 (.slice b18 0 1 (some 1)) = some (a20, H21) ∧ Ret F fl nbatchbisect_Failing [culprits1, a20] H21 (fun v24 H23 => ∃ (r22 : Bool), v24 = (.bool r22) ∧ ((¬(r22 = true)) → ∃ m25 : Nat, m25 < m10 ∧ J8 m25 (IntKind.wrap .i64 (v11 + 1)) a20 H23) ∧ (¬(¬(r22 = true)) → ∃ m26 : Nat, m26 < m10 ∧ J8 m26 (IntKind.wrap .i64 (v11 + 1)) out13 H23))) ∧ (¬(v11 < n0) → Q (.tuple [out13, (.agg [(.int .i64 0), (.int .i64 0)])]) H17))))) : Ret F fl me [(.int .i64 n0), culprits1] H Q := by
  refine ret_intro hF rfl ?_
  refine w_seq ?_
  refine w_run [0, 1] ?_
  obtain ⟨H2, hb⟩ : ∃ H', Dead1 H 1 H' := ⟨_, ⟨rfl⟩⟩
  replace h := h H2 hb
  refine t_tomb true 1 (.agg [(.int .i64 0), (.int .i64 0)]) [(.int .i64 0), (.int .i64 0)] H2 H (by kernel_rfl) rfl hb ?_
  refine t_done [(.int .i64 n0), culprits1, .empty, (.agg [(.int .i64 0), (.int .i64 0)]), .undef, .undef, .undef, .undef, .undef, .undef, .undef, .undef, .undef] H2 (by kernel_rfl) ?_
  refine then_norm ?_
  refine w_seq ?_
  refine w_seq ?_
  refine w_run [0, 0, 1, 1, 1] ?_
  refine t_call true nbatchbisect_Validate [(.int .i64 n0), culprits1] H2 (by kernel_rfl) h ?_
  clear h
  rintro _ H5 ⟨r3, r4, rfl, h⟩
  obtain ⟨H7, hb⟩ : ∃ H', Dead1 H5 1 H' := ⟨_, ⟨rfl⟩⟩
  replace h := h H7 hb
  refine t_tomb true 1 (.agg [(.int .i64 0), (.int .i64 0)]) [(.int .i64 0), (.int .i64 0)] H7 H5 (by kernel_rfl) rfl hb ?_
  refine t_upd true 2 0 [(.int .i64 0), (.int .i64 0)] (.agg [(.int .i64 r3), (.int .i64 r4)]) [(.int .i64 r3), (.int .i64 r4)] [(.int .i64 r3), (.int .i64 r4)] H7 (by kernel_rfl) rfl (all_c rfl (all_c rfl all_n)) ⟨rfl, Nat.le_of_ble_eq_true (by kernel_rfl), rfl⟩ ?_
  refine t_done [(.int .i64 n0), culprits1, .empty, (.agg [(.int .i64 0), (.int .i64 0)]), (.agg [(.int .i64 r3), (.int .i64 r4)]), .undef, .undef, .undef, .undef, .undef, .undef, .undef, .undef] H7 (by kernel_rfl) ?_
  refine then_norm ?_
  refine w_seq ?_
  refine w_run [0, 1, 0] ?_
  refine t_build true [(.int .i64 0), (.int .i64 0)] [] [] [(.int .i64 0), (.int .i64 0)] H7 (by kernel_rfl) (by kernel_rfl) ?_
  refine t_done [(.int .i64 n0), culprits1, .empty, (.agg [(.int .i64 0), (.int .i64 0)]), (.agg [(.int .i64 r3), (.int .i64 r4)]), (.bool (!((r3 == 0) && ((r4 == 0) && true)))), .undef, .undef, .undef, .undef, .undef, .undef, .undef] H7 (by kernel_rfl) ?_
  refine then_norm ?_
  refine w_cond (t := (!((r3 == 0) && ((r4 == 0) && true)))) rfl (fun hc => ?_) (fun hc => ?_)
  · replace h := h.1 ((is_not (is_and is_eq (is_and is_eq is_true))).t hc)
    refine w_seq ?_
    refine w_run [0, 0, 1] ?_
    refine t_upd true 2 0 [(.int .i64 0), (.int .i64 0)] (.agg [(.int .i64 r3), (.int .i64 r4)]) [(.int .i64 r3), (.int .i64 r4)] [(.int .i64 r3), (.int .i64 r4)] H7 (by kernel_rfl) rfl (all_c rfl (all_c rfl all_n)) ⟨rfl, Nat.le_of_ble_eq_true (by kernel_rfl), rfl⟩ ?_
    refine t_done [(.int .i64 n0), culprits1, .empty, (.agg [(.int .i64 r3), (.int .i64 r4)]), (.agg [(.int .i64 r3), (.int .i64 r4)]), (.bool (!((r3 == 0) && ((r4 == 0) && true)))), .undef, .undef, .undef, .undef, .undef, .undef, .undef] H7 (by kernel_rfl) ?_
    refine then_norm ?_
    refine w_ret ?_
    refine then_ret ?_
    exact body_ret (vs := [.empty, (.agg [(.int .i64 r3), (.int .i64 r4)])]) _ (by kernel_rfl) rfl h
  · replace h := h.2 ((is_not (is_and is_eq (is_and is_eq is_true))).f hc)
    refine w_skip ?_
    refine then_norm ?_
    refine w_seq ?_
    refine w_run [0] ?_
    refine t_done [(.int .i64 n0), culprits1, .empty, (.agg [(.int .i64 0), (.int .i64 0)]), (.agg [(.int .i64 r3), (.int .i64 r4)]), (.bool (!((r3 == 0) && ((r4 == 0) && true)))), .undef, .undef, .undef, .empty, .undef, .undef, .undef] H7 (by kernel_rfl) ?_
    refine then_norm ?_
    refine w_seq ?_
    refine w_seq ?_
    refine w_run [0, 0] ?_
    refine t_done [(.int .i64 n0), culprits1, .empty, (.agg [(.int .i64 0), (.int .i64 0)]), (.agg [(.int .i64 r3), (.int .i64 r4)]), (.bool (!((r3 == 0) && ((r4 == 0) && true)))), (.int .i64 0), (.int .i64 n0), .undef, .empty, .undef, .undef, .undef] H7 (by kernel_rfl) ?_
    refine then_norm ?_
    refine w_block ?_
    obtain ⟨J8, k9, h0, h⟩ := h
    refine w_loop (I := fun mI EI HI => ∃ (v11 : Int) (d12 : AV) (out13 : AV) (d14 : AV) (d15 : AV) (d16 : AV), EI = [(.int .i64 n0), culprits1, .empty, (.agg [(.int .i64 0), (.int .i64 0)]), (.agg [(.int .i64 r3), (.int .i64 r4)]), (.bool (!((r3 == 0) && ((r4 == 0) && true)))), (.int .i64 v11), (.int .i64 n0), d12, out13, d14, d15, d16] ∧ J8 mI v11 out13 HI) ?_ k9 ⟨_, _, _, _, _, _, rfl, h0⟩
    clear h0
    rintro m10 EI H17 ⟨v11, d12, out13, d14, d15, d16, rfl, hJ⟩
    replace h := h m10 v11 out13 H17 hJ
    clear hJ
    refine w_seq ?_
    refine w_run [0] ?_
    refine t_done [(.int .i64 n0), culprits1, .empty, (.agg [(.int .i64 0), (.int .i64 0)]), (.agg [(.int .i64 r3), (.int .i64 r4)]), (.bool (!((r3 == 0) && ((r4 == 0) && true)))), (.int .i64 v11), (.int .i64 n0), (.bool (decide (v11 < n0))), out13, d14, d15, d16] H17 (by kernel_rfl) ?_
    refine then_norm ?_
    refine w_seq ?_
    refine w_cond (t := (decide (v11 < n0))) rfl (fun hc => ?_) (fun hc => ?_)
    · replace h := h.1 (is_dec.t hc)
      refine w_skip ?_
      refine then_norm ?_
      refine w_seq ?_
      refine w_block ?_
      refine w_seq ?_
      refine w_run [0, 0] ?_
      refine t_done [(.int .i64 n0), culprits1, .empty, (.agg [(.int .i64 0), (.int .i64 0)]), (.agg [(.int .i64 r3), (.int .i64 r4)]), (.bool (!((r3 == 0) && ((r4 == 0) && true)))), (.int .i64 v11), (.int .i64 n0), (.bool (decide (v11 < n0))), out13, (.int .i64 v11), d15, d16] H17 (by kernel_rfl) ?_
      refine then_norm ?_
      refine w_seq ?_
      refine w_run [0, 0, 1, 1, 0] ?_
      obtain ⟨b18, H19, hb⟩ : ∃ b H', NewB H17 1 [(.int .i64 v11)] b H' := ⟨_, _, rfl, rfl⟩
      replace h := h b18 H19 hb
      refine t_bs true 1 [(.int .i64 0)] [(0, 1, .loc 0)] 1 [(.int .i64 v11)] [(.int .i64 v11)] b18 H19 H17 (by kernel_rfl) (fill_c (vs := [(.int .i64 v11)]) (size := 1) rfl (by kernel_rfl) (by kernel_rfl) (by kernel_rfl)) hb ?_
      obtain ⟨a20, H21, ha, h⟩ := h
      refine t_app true 1 8 out13 (.slice b18 0 1 (some 1)) a20 H21 H19 (by kernel_rfl) ha ?_
      refine t_done [(.int .i64 n0), culprits1, .empty, (.agg [(.int .i64 0), (.int .i64 0)]), (.agg [(.int .i64 r3), (.int .i64 r4)]), (.bool (!((r3 == 0) && ((r4 == 0) && true)))), (.int .i64 v11), (.int .i64 n0), (.bool (decide (v11 < n0))), out13, (.int .i64 v11), a20, d16] H21 (by kernel_rfl) ?_
      refine then_norm ?_
      refine w_seq ?_
      refine w_run [0, 0, 1, 0] ?_
      refine t_call true nbatchbisect_Failing [culprits1, a20] H21 (by kernel_rfl) h ?_
      clear h
      rintro _ H23 ⟨r22, rfl, h⟩
      refine t_done [(.int .i64 n0), culprits1, .empty, (.agg [(.int .i64 0), (.int .i64 0)]), (.agg [(.int .i64 r3), (.int .i64 r4)]), (.bool (!((r3 == 0) && ((r4 == 0) && true)))), (.int .i64 v11), (.int .i64 n0), (.bool (decide (v11 < n0))), out13, (.int .i64 v11), a20, (.bool (!r22))] H23 (by kernel_rfl) ?_
      refine then_norm ?_
      refine w_cond (t := (!r22)) rfl (fun hc => ?_) (fun hc => ?_)
      · replace h := h.1 ((is_not is_raw).t hc)
        refine w_run [0, 0] ?_
        refine t_done [(.int .i64 n0), culprits1, .empty, (.agg [(.int .i64 0), (.int .i64 0)]), (.agg [(.int .i64 r3), (.int .i64 r4)]), (.bool (!((r3 == 0) && ((r4 == 0) && true)))), (.int .i64 v11), (.int .i64 n0), (.bool (decide (v11 < n0))), a20, (.int .i64 v11), a20, (.bool (!r22))] H23 (by kernel_rfl) ?_
        refine block_norm ?_
        refine then_norm ?_
        refine w_run [0, 0] ?_
        refine t_done [(.int .i64 n0), culprits1, .empty, (.agg [(.int .i64 0), (.int .i64 0)]), (.agg [(.int .i64 r3), (.int .i64 r4)]), (.bool (!((r3 == 0) && ((r4 == 0) && true)))), (.int .i64 (IntKind.wrap .i64 (v11 + 1))), (.int .i64 n0), (.bool (decide (v11 < n0))), a20, (.int .i64 v11), a20, (.bool (!r22))] H23 (by kernel_rfl) ?_
        obtain ⟨m', hm, h⟩ := h
        refine loop_norm ⟨m', hm, _, _, _, _, _, _, rfl, h⟩
      · replace h := h.2 ((is_not is_raw).f hc)
        refine w_skip ?_
        refine block_norm ?_
        refine then_norm ?_
        refine w_run [0, 0] ?_
        refine t_done [(.int .i64 n0), culprits1, .empty, (.agg [(.int .i64 0), (.int .i64 0)]), (.agg [(.int .i64 r3), (.int .i64 r4)]), (.bool (!((r3 == 0) && ((r4 == 0) && true)))), (.int .i64 (IntKind.wrap .i64 (v11 + 1))), (.int .i64 n0), (.bool (decide (v11 < n0))), out13, (.int .i64 v11), a20, (.bool (!r22))] H23 (by kernel_rfl) ?_
        obtain ⟨m', hm, h⟩ := h
        refine loop_norm ⟨m', hm, _, _, _, _, _, _, rfl, h⟩
    · replace h := h.2 (is_dec.f hc)
      refine w_exit ?_
      refine then_exit ?_
      refine loop_exit ?_
      refine block_exit ?_
      refine then_norm ?_
      refine w_seq ?_
      refine w_run [0, 1, 0, 1] ?_
      refine t_build true [(.int .i64 0), (.int .i64 0)] [] [] [(.int .i64 0), (.int .i64 0)] H17 (by kernel_rfl) (by kernel_rfl) ?_
      refine t_upd true 2 0 [(.int .i64 0), (.int .i64 0)] (.agg [(.int .i64 0), (.int .i64 0)]) [(.int .i64 0), (.int .i64 0)] [(.int .i64 0), (.int .i64 0)] H17 (by kernel_rfl) rfl (all_c rfl (all_c rfl all_n)) ⟨rfl, Nat.le_of_ble_eq_true (by kernel_rfl), rfl⟩ ?_
      refine t_done [(.int .i64 n0), culprits1, out13, (.agg [(.int .i64 0), (.int .i64 0)]), (.agg [(.int .i64 r3), (.int .i64 r4)]), (.bool (!((r3 == 0) && ((r4 == 0) && true)))), (.int .i64 v11), (.int .i64 n0), (.bool (decide (v11 < n0))), out13, d14, d15, d16] H17 (by kernel_rfl) ?_
      refine then_norm ?_
      refine w_ret ?_
      exact body_ret (vs := [out13, (.agg [(.int .i64 0), (.int .i64 0)])]) _ (by kernel_rfl) rfl h

end Go.RM

/-
  Package batchbisect: what its functions return, as functions of lists.
-/
namespace Go.RM
set_option linter.unusedSimpArgs false
set_option linter.unusedVariables false

namespace Bat

/-- The error code of a set of changes, behind the change 'last'. -/
def setCode (n : Int) : Int → List Int → Int
  | _, [] => 0
  | last, c :: l => if c < 0 ∨ c ≥ n then 3 else if c ≤ last then 5 else setCode n c l

def vLoop (n : Int) : Nat → List (List Int) → Int × Int
  | _, [] => (0, 0)
  | i, s :: r => if s.length = 0 then (9, (i : Int)) else if setCode n (-1) s ≠ 0 then (setCode n (-1) s, (i : Int)) else vLoop n (i + 1) r

def fault (n : Int) (cs : List (List Int)) : Int × Int := if n < 0 ∨ n > 16 then (3, -1) else if cs.length > 8 then (2, -1) else vLoop n 0 cs

def failing (cs : List (List Int)) (set : List Int) : Bool := cs.any fun c => c.all fun x => decide (x ∈ set)

end Bat
open Bat

abbrev ff (p : Int × Int) : AV := flt p.1 p.2

variable {F : Nat → Option RFunc}

theorem getD_drop {l : List Int} {i : Nat} (h : i < l.length) (d : Int) : l.getD i d = l[i] := by rw [List.getD_eq_getElem?_getD, List.getElem?_eq_getElem h]; rfl

abbrev SetCodeC (F : Nat → Option RFunc) (f : Nat) : Prop := ∀ {fl H Q n v l}, Ints H v l → Q (i64 (setCode n (-1) l)) H → Ret F fl f [i64 n, v] H Q

theorem bSetCode_c {f : Nat} (hF : F f = some rf_batchbisect_setCode) : SetCodeC F f := fun {fl H Q n v l} hv hq => by
  refine v_batchbisect_setCode hF _ _ ?_
  refine ⟨_, hv.len, fun m v => ∃ i : Nat, v = i ∧ i + m = l.length ∧ setCode n (-1) l = setCode n (((-1) :: l).getD i (-1)) (l.drop i), l.length, ⟨0, rfl, by omega, by simp⟩, ?_⟩
  rintro m _ ⟨i, rfl, hm, hi⟩
  have hs := hv.small
  refine ⟨fun hlt => ?_, fun hge => ?_⟩
  · have hil : i < l.length := by omega
    rw [List.drop_eq_getElem_cons hil, setCode] at hi
    have hnext : ∀ last, last = ((-1) :: l).getD i (-1) → ¬ (l[i] < 0 ∨ l[i] ≥ n) → ¬ l[i] ≤ last → ∃ m', m' < m ∧ ∃ i' : Nat, IntKind.wrap .i64 ((i : Int) + 1) = i' ∧ i' + m' = l.length ∧ setCode n (-1) l = setCode n (((-1) :: l).getD i' (-1)) (l.drop i') := fun last hl h1 h2 => by
      refine ⟨m - 1, by omega, i + 1, wsucc hil hs, by omega, ?_⟩
      rw [if_neg h1, ← hl, if_neg h2] at hi
      rw [hi, List.getD_cons_succ, getD_drop hil]
    refine ⟨_, hv.int hil, fun h => ?_, fun h => ⟨fun hpos => ?_, fun hz => ?_⟩⟩
    · rw [hi, if_pos h] at hq; exact hq
    · have h1 : ((-1) :: l).getD i (-1) = l[i - 1] := by
        obtain ⟨j, rfl⟩ : ∃ j, i = j + 1 := ⟨i - 1, by omega⟩
        rw [List.getD_cons_succ, getD_drop (by omega)]; rfl
      rw [wpred (by omega) (by omega)]
      refine ⟨_, hv.int (by omega), fun h2 => ?_, fun h2 => hnext _ h1.symm h h2⟩
      rw [hi, if_neg h, h1, if_pos h2] at hq; exact hq
    · obtain rfl : i = 0 := by omega
      exact hnext (-1) rfl h (by omega)
  · rw [List.drop_eq_nil_of_le (by omega)] at hi
    rw [hi] at hq; exact hq

abbrev Lists (H : Heap) (v : AV) (l : List (List Int)) : Prop := Arr (tArr tInt) H v l

abbrev CulFaultC (F : Nat → Option RFunc) (f : Nat) : Prop := ∀ {fl H Q n v cs}, Lists H v cs → (∀ H', Keep H.length H H' → Q (ff (fault n cs)) H') → Ret F fl f [i64 n, v] H Q

theorem bValidate_c {f n1 : Nat} (hF : F f = some (rf_batchbisect_Validate n1)) (h1 : SetCodeC F n1) : CulFaultC F f := fun {fl H Q n v cs} hv hq => by
  refine v_batchbisect_Validate hF _ _ ?_
  intro H2 hd
  have k2 := hd.keep
  refine ⟨fun h => ?_, fun h => ⟨_, (hv.keep k2).len, fun h8 => ?_, fun h8 => ⟨_, (hv.keep k2).len, ?_⟩⟩⟩
  · have := hq H2 k2; rw [fault, if_pos h] at this; exact this
  · have := hq H2 k2; rw [fault, if_neg h, if_pos (by omega)] at this; exact this
  · have hfe : fault n cs = vLoop n 0 cs := by rw [fault, if_neg h, if_neg (by omega)]
    rw [hfe] at hq
    refine ⟨fun m a b v H' => ∃ i : Nat, v = i ∧ i + m = cs.length ∧ a = 0 ∧ b = 0 ∧ Keep H.length H H' ∧ vLoop n 0 cs = vLoop n i (cs.drop i), cs.length, ⟨0, rfl, by omega, rfl, rfl, k2, by simp⟩, ?_⟩
    rintro m _ _ _ H' ⟨i, rfl, hm, rfl, rfl, hk, hi⟩
    refine ⟨fun hlt => ?_, fun hge => ?_⟩
    · have hil : i < cs.length := by omega
      obtain ⟨w, hw1, hw2⟩ := (hv.keep hk).arr hil
      rw [List.drop_eq_getElem_cons hil, vLoop] at hi
      refine ⟨w, hw1, _, hw2.len, fun h0 => ?_, fun h0 => h1 hw2 ⟨_, rfl, fun he => ?_, fun he => ?_⟩⟩
      · have := hq H' hk; rw [hi, if_pos (by omega)] at this; exact this
      · have := hq H' hk; rw [hi, if_neg (by omega), if_pos he] at this; exact this
      · refine ⟨m - 1, by omega, i + 1, wsucc hil hv.small, by omega, rfl, rfl, hk, ?_⟩
        rw [hi, if_neg (by omega), if_neg he]
    · rw [List.drop_eq_nil_of_le (by omega)] at hi
      have := hq H' hk; rw [hi] at this; exact this

abbrev FailingC (F : Nat → Option RFunc) (f : Nat) : Prop := ∀ {fl H Q v w cs set}, Lists H v cs → Ints H w set → (∀ H', Keep H.length H H' → Q (.bool (failing cs set)) H') → Ret F fl f [v, w] H Q

theorem bFailing_c {f n1 n2 n3 n4 n5 : Nat} (hF : F f = some (rf_batchbisect_Failing n1 n2)) (h1 : F n1 = some (rf_batchbisect_Failingx1 n3 n4)) (h3 : F n3 = some (rf_batchbisect_Failingx1x1 n5)) (h2 : ContainsFuncLC F n2) (h4 : ContainsFuncIC F n4) (h5 : ContainsIC F n5) : FailingC F f := fun {fl H Q v w cs set} hv hw hq => by
  refine v_batchbisect_Failing hF _ _ ⟨hw.scal, fun b H4 hb => ?_⟩
  have kb := hb.keep
  refine h2 (hv.keep kb) (p := fun c => c.all fun x => decide (x ∈ set)) ?_ fun H' hk => ⟨_, rfl, hq H' (kb.call hk)⟩
  rintro c a H5 _ hk ⟨u, hu, hu2⟩
  obtain rfl : c = u := by simpa using hu
  refine v_batchbisect_Failingx1 h1 _ _ ?_
  refine h4 hu2 (p := fun x => !decide (x ∈ set)) ?_ fun H6 hk6 => ⟨_, rfl, ?_, hk6⟩
  · rintro c a H7 _ hk7 hc
    obtain rfl : c = i64 a := by simpa [tInt] using hc
    have hk' := hk.call hk7
    refine v_batchbisect_Failingx1x1 h3 _ _ ⟨b, 0, rfl, w, (hb.cell.keep hk').load, ?_⟩
    exact h5 ((hw.keep kb).keep hk') ⟨_, rfl, rfl, Keep.refl _⟩
  · congr 1
    rw [List.not_any_eq_all_not]; simp

end Go.RM

/-
  Package batchbisect: the searches.
-/
namespace Go.RM
set_option linter.unusedSimpArgs false
set_option linter.unusedVariables false
open Bat

namespace Bat
def gstep (cs : List (List Int)) (out : List Int) (c : Int) : List Int := if failing cs (out ++ [c]) then out else out ++ [c]
def greedy (cs : List (List Int)) (n : Nat) : List Int := (upTo n).foldl (gstep cs) []
def greedyR (n : Int) (cs : List (List Int)) : List Int × (Int × Int) :=
  if (fault n cs).1 = 0 ∧ (fault n cs).2 = 0 then (greedy cs n.toNat, (0, 0)) else ([], fault n cs)

def failsR (n : Int) (cs : List (List Int)) (set : List Int) : Bool × (Int × Int) :=
  if (fault n cs).1 = 0 ∧ (fault n cs).2 = 0 then (if setCode n (-1) set ≠ 0 then (false, (setCode n (-1) set, -2)) else (failing cs set, (0, 0))) else (false, fault n cs)

theorem greedy_len (cs : List (List Int)) (n : Nat) : (greedy cs n).length ≤ n := by
  unfold greedy
  induction n with
  | zero => simp [upTo]
  | succ n ih =>
    rw [upTo_succ, List.foldl_append, List.foldl_cons, List.foldl_nil]
    unfold gstep at ih ⊢
    split
    · omega
    · rw [List.length_append]; simp; omega

theorem fault_le {n : Int} {cs : List (List Int)} (h : (fault n cs).1 = 0) : 0 ≤ n ∧ n ≤ 16 ∧ cs.length ≤ 8 := by
  unfold fault at h
  split at h
  · simp at h
  · split at h
    · simp at h
    · omega
end Bat

variable {F : Nat → Option RFunc}

/-- A fault that is none. -/
theorem ok_iff {a b : Int} : ¬ ¬ (a = 0 ∧ b = 0 ∧ True) ↔ (a = 0 ∧ b = 0) := by
  constructor
  · intro h; by_cases h1 : a = 0 ∧ b = 0
    · exact h1
    · exact absurd (fun h2 => h1 ⟨h2.1, h2.2.1⟩) h
  · intro h h1; exact h1 ⟨h.1, h.2, trivial⟩

abbrev FailsC (F : Nat → Option RFunc) (f : Nat) : Prop := ∀ {fl H Q n v w cs set}, Lists H v cs → Ints H w set → (∀ H', Keep H.length H H' → Q (.tuple [.bool (failsR n cs set).1, ff (failsR n cs set).2]) H') → Ret F fl f [i64 n, v, w] H Q
theorem fails_c {f n1 n2 n3 : Nat} (hF : F f = some (rf_batchbisect_Fails n1 n2 n3)) (h1 : CulFaultC F n1) (h2 : SetCodeC F n2) (h3 : FailingC F n3) : FailsC F f := fun {fl H Q n v w cs set} hv hw hq => by
  refine v_batchbisect_Fails hF _ _ _ ?_
  intro H1 d1
  refine h1 (hv.keep d1.keep) fun H2 k2 => ⟨_, _, rfl, fun H3 d3 => ?_⟩
  have k3 := (d1.keep.call k2).call d3.keep
  refine ⟨fun hne => ?_, fun he => ?_⟩
  · have := hq H3 k3
    rw [failsR, if_neg (fun h => hne ⟨h.1, h.2, trivial⟩)] at this; exact this
  · have hok := ok_iff.1 he
    refine h2 (hw.keep k3) ⟨_, rfl, fun hc => ?_, fun hc => h3 (hv.keep k3) (hw.keep k3) fun H4 k4 => ⟨_, rfl, ?_⟩⟩
    · have := hq H3 k3
      rw [failsR, if_pos hok, if_pos hc] at this; exact this
    · have := hq H4 (k3.call k4)
      rw [failsR, if_pos hok, if_neg hc] at this; exact this

abbrev GreedyC (F : Nat → Option RFunc) (f : Nat) : Prop := ∀ {fl H Q n v cs}, Lists H v cs → fl ≤ H.length → (∀ w H', Keep H.length H H' → Ints H' w (greedyR n cs).1 → Q (.tuple [w, ff (greedyR n cs).2]) H') → Ret F fl f [i64 n, v] H Q

theorem greedy_c {f n1 n2 : Nat} (hF : F f = some (rf_batchbisect_Greedy n1 n2)) (h1 : CulFaultC F n1) (h2 : FailingC F n2) : GreedyC F f := fun {fl H Q n v cs} hv hfl hq => by
  refine v_batchbisect_Greedy hF _ _ ?_
  intro H1 d1
  refine h1 (hv.keep d1.keep) fun H2 k2 => ⟨_, _, rfl, fun H3 d3 => ?_⟩
  have k3 := (d1.keep.call k2).call d3.keep
  refine ⟨fun hne => ?_, fun he => ?_⟩
  · have := hq .empty H3 k3
    rw [greedyR, if_neg (fun h => hne ⟨h.1, h.2, trivial⟩)] at this; exact this Arr.nil
  · have hok := ok_iff.1 he
    obtain ⟨g0, g16, _⟩ := fault_le hok.1
    refine ⟨fun m v w H' => ∃ i : Nat, v = i ∧ i + m = n.toNat ∧ Keep H.length H H' ∧ AccR H tInt H' w (greedy cs i), n.toNat, ⟨0, rfl, by omega, k3, AccR.nil⟩, ?_⟩
    rintro m _ w H' ⟨i, rfl, hm, hk, hw⟩
    refine ⟨fun hlt b H4 hb => ?_, fun hge => ?_⟩
    · have hgl := greedy_len cs i
      obtain ⟨w', H5, a1, a2, a3, a4⟩ := hw.push (fl := fl) (bytes := 8) (a := (i : Int)) rfl hb hk hfl (by omega) (by omega)
      have hk5 := a4
      have hg : greedy cs (i + 1) = gstep cs (greedy cs i) i := by rw [greedy, upTo_succ, List.foldl_append]; rfl
      refine ⟨w', H5, a1, h2 (hv.keep hk5) (a2.arr hk5) fun H6 k6 => ⟨_, rfl, fun hnf => ?_, fun hf => ?_⟩⟩
      · refine ⟨m - 1, by omega, i + 1, wsucc (n := n.toNat) (by omega) (by omega), by omega, hk5.call k6, ?_⟩
        rw [hg, gstep, if_neg hnf]; exact a2.keep k6
      · refine ⟨m - 1, by omega, i + 1, wsucc (n := n.toNat) (by omega) (by omega), by omega, hk5.call k6, ?_⟩
        rw [hg, gstep, if_pos (by simpa using hf)]; exact a3.keep k6
    · have : i = n.toNat := by omega
      subst this
      have := hq w H' hk
      rw [greedyR, if_pos hok] at this; exact this (hw.arr hk)

end Go.RM

/-
  Package batchbisect: the minimal set; the reference's first failing change.
-/
namespace Go.RM
set_option linter.unusedSimpArgs false
set_option linter.unusedVariables false
open Bat

namespace Bat
end Bat

variable {F : Nat → Option RFunc}

namespace Bat
end Bat

end Go.RM

/-
  Package batchbisect: plain facts about sets of changes and searches.
-/
namespace Go.RM.Bat
set_option linter.unusedSimpArgs false
set_option linter.unusedVariables false

theorem setCode_ok {n : Int} : ∀ {last : Int} {l : List Int}, setCode n last l = 0 ↔ (∀ x ∈ l, 0 ≤ x ∧ x < n ∧ last < x) ∧ l.Pairwise (· < ·)
  | last, [] => by simp [setCode]
  | last, c :: l => by
    rw [setCode]
    split
    · rename_i h
      constructor
      · intro h'; cases h'
      · rintro ⟨h1, _⟩; have := h1 c (by simp); omega
    · rename_i h
      split
      · rename_i h2
        constructor
        · intro h'; cases h'
        · rintro ⟨h1, _⟩; have := h1 c (by simp); omega
      · rename_i h2
        rw [setCode_ok (n := n) (last := c) (l := l), List.pairwise_cons]
        constructor
        · rintro ⟨h3, h4⟩
          refine ⟨fun x hx => ?_, fun x hx => (h3 x hx).2.2, h4⟩
          rcases List.mem_cons.1 hx with rfl | hx
          · omega
          · have := h3 x hx; omega
        · rintro ⟨h3, h4, h5⟩
          exact ⟨fun x hx => ⟨(h3 x (by simp [hx])).1, (h3 x (by simp [hx])).2.1, h4 x hx⟩, h5⟩

theorem failing_nil {n : Int} : ∀ {cs : List (List Int)} {i : Nat}, (vLoop n i cs).1 = 0 → failing cs [] = false
  | [], i, _ => rfl
  | s :: r, i, h => by
    rw [vLoop] at h
    split at h
    · simp at h
    · rename_i hs
      split at h
      · rename_i h2; exact absurd h h2
      · unfold failing
        rw [List.any_cons]
        have hr := failing_nil (cs := r) (i := i + 1) h
        unfold failing at hr
        rw [hr, Bool.or_false]
        cases s with
        | nil => simp at hs
        | cons a s => simp

theorem vLoop_zero {n : Int} : ∀ {cs : List (List Int)} {i : Nat}, (vLoop n i cs).1 = 0 → (vLoop n i cs).2 = 0
  | [], i, _ => rfl
  | s :: r, i, h => by
    rw [vLoop] at h ⊢
    split
    · rename_i h1; rw [if_pos h1] at h; simp at h
    · rename_i h1
      rw [if_neg h1] at h
      split
      · rename_i h2; rw [if_pos h2] at h; exact absurd h h2
      · rename_i h2; rw [if_neg h2] at h; exact vLoop_zero h

theorem fault_ok {n : Int} {cs : List (List Int)} (h : (fault n cs).1 = 0) : (fault n cs).2 = 0 ∧ 0 ≤ n ∧ n ≤ 16 ∧ failing cs [] = false := by
  obtain ⟨h0, h16, h8⟩ := fault_le h
  have : fault n cs = vLoop n 0 cs := by rw [fault, if_neg (by omega), if_neg (by omega)]
  rw [this] at h ⊢
  exact ⟨vLoop_zero h, h0, h16, failing_nil h⟩

/-- The changes accepted one after the other. -/
theorem greedy_mem {cs : List (List Int)} {n : Nat} {x : Int} : x ∈ greedy cs n → 0 ≤ x ∧ x < n := by
  unfold greedy
  induction n with
  | zero => intro h; simp [upTo] at h
  | succ n ih =>
    rw [upTo_succ, List.foldl_append, List.foldl_cons, List.foldl_nil]
    unfold gstep at ih ⊢
    split
    · intro h; have := ih h; omega
    · intro h
      rcases List.mem_append.1 h with h | h
      · have := ih h; omega
      · rw [List.mem_singleton] at h; omega

theorem greedy_succ (cs : List (List Int)) (n : Nat) : greedy cs (n + 1) = gstep cs (greedy cs n) n := by rw [greedy, upTo_succ, List.foldl_append]; rfl

theorem greedy_ok {cs : List (List Int)} (h0 : failing cs [] = false) (n : Nat) : (greedy cs n).Pairwise (· < ·) ∧ failing cs (greedy cs n) = false := by
  induction n with
  | zero => exact ⟨List.Pairwise.nil, h0⟩
  | succ n ih =>
    rw [greedy_succ, gstep]
    split
    · exact ih
    · rename_i h
      refine ⟨?_, by simpa using h⟩
      rw [List.pairwise_append]
      exact ⟨ih.1, List.pairwise_singleton _ _, fun a ha b hb => by have := greedy_mem ha; rw [List.mem_singleton] at hb; omega⟩

theorem greedyR_ok {n : Int} {cs : List (List Int)} (h : (greedyR n cs).2.1 = 0) : (fault n cs).1 = 0 ∧ (fault n cs).2 = 0 ∧ greedyR n cs = (greedy cs n.toNat, (0, 0)) := by
  unfold greedyR at h ⊢
  split at h
  · rename_i h1; exact ⟨h1.1, h1.2, by rw [if_pos h1]⟩
  · rename_i h1
    have := fault_ok h
    exact absurd ⟨h, this.1⟩ h1

theorem failsR_of {n : Int} {cs : List (List Int)} {set : List Int} (h1 : (fault n cs).1 = 0) (h3 : setCode n (-1) set = 0) : failsR n cs set = (failing cs set, (0, 0)) := by
  rw [failsR, if_pos ⟨h1, (fault_ok h1).1⟩, if_neg (by simp [h3])]

end Go.RM.Bat

/-
  speculate's laws UselessRunsAreIgnored, NextDecidesAll.
-/
namespace Go.RM
set_option linter.unusedSimpArgs false
set_option linter.unusedVariables false
namespace Sp
variable {F : Nat → Option RFunc}

end Sp
end Go.RM

/-
  speculate's law NextDecidesAll.
-/
namespace Go.RM
set_option linter.unusedSimpArgs false
set_option linter.unusedVariables false
open Bat
namespace Sp
variable {F : Nat → Option RFunc}

/-- The result of the k-th run that is needed. -/
def trP (cs : List (List Int)) (k : Nat) : TR := ⟨⟨(k : Int), greedy cs k⟩, !failing cs (greedy cs k ++ [(k : Int)])⟩
def trL (cs : List (List Int)) (i : Nat) : List TR := (List.range i).map (trP cs)
theorem trL_succ {cs : List (List Int)} {i : Nat} : trL cs (i + 1) = trL cs i ++ [trP cs i] := by
  unfold trL; rw [List.range_succ, List.map_append]; rfl
theorem trL_len {cs : List (List Int)} {i : Nat} : (trL cs i).length = i := by unfold trL; simp

theorem run_ok8 {cs : List (List Int)} {n : Int} {k : Nat} (h0 : failing cs [] = false) (hk : (k : Int) < n) : runE n (trP cs k).r = 0 := by
  unfold runE trP
  simp only
  rw [if_neg (by omega)]
  refine codeL_of (greedy_ok h0 k).1 fun x hx => ?_
  have := greedy_mem hx
  omega

theorem res_trL {cs : List (List Int)} {n : Int} {i : Nat} (h0 : failing cs [] = false) (hn : 0 ≤ n ∧ n ≤ 8) (hi : (i : Int) ≤ n) : resE n (trL cs i) = (0, 0) := by
  unfold resE
  rw [if_neg (by omega), if_neg (by rw [trL_len]; omega)]
  have : ∀ d j : Nat, j + d = i → resL n (trL cs j) j (((List.range i).map (trP cs)).drop j) = (0, 0) := by
    intro d
    induction d with
    | zero =>
      intro j hj
      rw [List.drop_eq_nil_of_le (by simp; omega)]; rfl
    | succ d ih =>
      intro j hj
      have hjl : j < ((List.range i).map (trP cs)).length := by simp; omega
      rw [List.drop_eq_getElem_cons hjl, resL]
      have e : ((List.range i).map (trP cs))[j] = trP cs j := by simp
      rw [e, if_neg (by rw [run_ok8 h0 (by omega)]; simp), if_neg]
      · have := ih (j + 1) (by omega)
        rw [trL_succ] at this
        exact this
      · rw [Bool.not_eq_true, List.any_eq_false]
        intro y hy
        unfold trL at hy
        obtain ⟨k, hk, rfl⟩ := List.mem_map.1 hy
        have hk := List.mem_range.1 hk
        unfold confl
        have : (trP cs j).r ≠ (trP cs k).r := fun he => by
          have := congrArg Run.last he
          simp only [trP] at this; omega
        rw [decide_eq_false this]; simp
  exact this i 0 (by omega)

theorem find_trL {cs : List (List Int)} {i j : Nat} {b : List Int} (hb : (greedy cs j).length + b.length = j) : (trL cs i).find? (hitP (greedy cs j) b) = if j < i then some (trP cs j) else none := by
  have hhit : ∀ k, hitP (greedy cs j) b (trP cs k) = decide (k = j) := fun k => by
    unfold hitP trP
    rw [hb, Bool.eq_iff_iff, decide_eq_true_eq, decide_eq_true_eq]
    constructor
    · intro h
      have := congrArg Run.last h
      simp only at this; omega
    · rintro rfl; rfl
  split
  · rename_i h
    rw [List.find?_eq_some_iff_getElem]
    refine ⟨by rw [hhit]; simp, j, by rw [trL_len]; exact h, by simp [trL], fun k hk => ?_⟩
    have : (trL cs i)[k]'(by rw [trL_len]; omega) = trP cs k := by simp [trL]
    rw [this, hhit]
    simp; omega
  · rename_i h
    refine List.find?_eq_none.2 fun x hx => ?_
    unfold trL at hx
    obtain ⟨k, hk, rfl⟩ := List.mem_map.1 hx
    have hk := List.mem_range.1 hk
    rw [hhit]
    simp; omega

theorem dec_trL {cs : List (List Int)} {i : Nat} : ∀ (d e j : Nat) (b : List Int), j + d = i → (greedy cs j).length + b.length = j →
    (decS (trL cs i) (d + e) (greedy cs j) b).1 = greedy cs i ∧ (decS (trL cs i) (d + e) (greedy cs j) b).1.length + (decS (trL cs i) (d + e) (greedy cs j) b).2.length = i
  | 0, e, j, b, hj, hb => by
    have : j = i := by omega
    subst this
    cases e with
    | zero => exact ⟨rfl, hb⟩
    | succ e =>
      rw [Nat.zero_add, decS, find_trL hb, if_neg (Nat.lt_irrefl _)]
      exact ⟨rfl, hb⟩
  | d + 1, e, j, b, hj, hb => by
    rw [show d + 1 + e = (d + e) + 1 by omega, decS, find_trL hb, if_pos (show j < i by omega)]
    simp only [hb]
    have hg := greedy_succ cs j
    unfold gstep at hg
    cases hf : failing cs (greedy cs j ++ [(j : Int)]) with
    | false =>
      have hok : (trP cs j).ok = true := by unfold trP; simp [hf]
      rw [if_pos hok]
      rw [hf] at hg
      simp only [Bool.false_eq_true, if_false] at hg
      rw [← hg]
      exact dec_trL d e (j + 1) b (by omega) (by rw [hg]; simp; omega)
    | true =>
      have hok : ¬ (trP cs j).ok = true := by unfold trP; simp [hf]
      rw [if_neg hok]
      rw [hf] at hg
      simp only [if_true] at hg
      have := dec_trL (i := i) d e (j + 1) (b ++ [(j : Int)]) (by omega) (by rw [hg]; simp; omega)
      rw [hg] at this
      exact this

theorem decA_trL {cs : List (List Int)} {n : Int} {i : Nat} (h0 : failing cs [] = false) (hn : 0 ≤ n ∧ n ≤ 8) (hi : (i : Int) ≤ n) : (decA n (trL cs i)).1 = greedy cs i ∧ (decA n (trL cs i)).1.length + (decA n (trL cs i)).2.length = i := by
  unfold decA
  rw [if_pos (res_trL h0 hn hi)]
  unfold decR
  have := dec_trL (cs := cs) (i := i) i (n.toNat - i) 0 [] (by omega) rfl
  rw [show i + (n.toNat - i) = n.toNat by omega] at this
  exact this

/-! ### The list of results in the heap -/

abbrev cellT (x : AV × TR) : List AV := trC x.1 x.2
structure PT (n : Nat) (own : Nat → Bool) (H : Heap) (av : AV) (xs : List (AV × TR)) : Prop where
  all : Own n H 3 av xs.length (xs.map cellT).flatten
  ws : ∀ x ∈ xs, Own n H 1 x.1 x.2.r.w.length (ints x.2.r.w)
  oA : ∀ b, At av b → own b = true
  oW : ∀ x ∈ xs, ∀ b, At x.1 b → own b = false
theorem PT.keep {n : Nat} {own : Nat → Bool} {H H' : Heap} {av : AV} {xs : List (AV × TR)} (h : PT n own H av xs) (k : Keep H.length H H') : PT n own H' av xs :=
  ⟨h.all.keep k, fun x hx => (h.ws x hx).keep k, h.oA, h.oW⟩
theorem PT.arr {n : Nat} {own : Nat → Bool} {H : Heap} {av : AV} {xs : List (AV × TR)} (h : PT n own H av xs) : Arr tTR H av (xs.map (·.2)) := by
  refine ⟨⟨xs.map cellT, ?_, by rw [List.length_map]; exact h.all.sl⟩⟩
  have : ∀ ys : List (AV × TR), (∀ x ∈ ys, x ∈ xs) → All2 (tTR.rel H) (ys.map cellT) (ys.map (·.2)) := by
    intro ys
    induction ys with
    | nil => intro _; trivial
    | cons y ys ih => intro hy; exact ⟨⟨y.1, rfl, own_ints (h.ws y (hy y (by simp)))⟩, ih fun x hx => hy x (by simp [hx])⟩
  exact this xs fun x hx => hx
theorem PT.push {n b fl : Nat} {own : Nat → Bool} {H0 H H1 : Heap} {av w : AV} {xs : List (AV × TR)} {p : TR} (h : PT n own H0 av xs) (k : Keep H0.length H0 H) (hw : Own H0.length H 1 w p.r.w.length (ints p.r.w)) (hn : n ≤ H0.length) (hfl : fl ≤ n)
    (hb : NewB H 3 (cellT (w, p)) b H1) (hlen : xs.length ≤ 2 ^ 20) : ∃ a H2, appA fl true 3 40 H1 av (.slice b 0 1 (some 1)) = some (a, H2) ∧ H1.length ≤ H2.length ∧ (∀ b, b < H1.length → ¬ At av b → H2[b]? = H1[b]?) ∧ ∃ own', PT n own' H2 a (xs ++ [(w, p)]) := by
  have h1 := (h.keep k).keep hb.keep
  have w1 := hw.keep hb.keep
  have hl0 := k.len
  have hl1 := hb.keep.len
  obtain ⟨a, H2, p1, p2, p3, p4, p5⟩ := Own.push (fl := fl) (bytes := 40) (e := 3) (by decide) h1.all (hb.sl (n := 1) rfl) (by omega) hfl (by
    show (true && (w.scalar && (true && true))) = true
    rw [hw.scal.2]; rfl) (by omega) (by decide)
  have atav : ∀ y, At av y → y < H0.length := fun y hy => (h.all.at_lt hy).2
  refine ⟨a, H2, p1, p3, p4, fun y => if y < H0.length then own y else decide (H1.length ≤ y), ?_, fun x hx => ?_, fun y hy => ?_, fun x hx y hy => ?_⟩
  · simpa using p2
  · rcases List.mem_append.1 hx with hx | hx
    · exact (h1.ws x hx).frame fun y hy => p4 y ((h1.ws x hx).at_lt hy).2 fun ha => by
        have e1 := h.oA y ha
        rw [h.oW x hx y hy] at e1; cases e1
    · rw [List.mem_singleton.1 hx]
      exact own_less (w1.frame fun y hy => p4 y (w1.at_lt hy).2 fun ha => by
        have := (w1.at_lt hy).1
        have := atav y ha
        omega) hn
  · show (if y < H0.length then own y else decide (H1.length ≤ y)) = true
    rcases p5 y hy with ha | ha
    · rw [if_pos (atav y ha)]; exact h.oA y ha
    · rw [if_neg (by omega)]; exact decide_eq_true ha
  · show (if y < H0.length then own y else decide (H1.length ≤ y)) = false
    rcases List.mem_append.1 hx with hx | hx
    · rw [if_pos ((h.ws x hx).at_lt hy).2]; exact h.oW x hx y hy
    · rw [List.mem_singleton.1 hx] at hy
      have := (w1.at_lt hy)
      rw [if_neg (by omega)]; exact decide_eq_false (by omega)

theorem lNext_c {f n1 n2 n3 n4 n5 n6 : Nat} (hF : F f = some (rf_LSpeculateNextDecidesAll n1 n2 n3 n4 n5 n6)) (h1 : GreedyC F n1) (h2 : ExC F n2) (h3 : NextC F n3) (h4 : FailsC F n4) (h5 : DecC F n5) (h6 : FEqualIntsC F n6)
    {fl : Nat} {H : Heap} {v : AV} {n : Int} {cs : List (List Int)} (hv : Lists H v cs) (hfl : fl ≤ H.length) : Ret F fl f [i64 n, v] H tru := by
  refine v_LSpeculateNextDecidesAll hF _ _ ?_
  refine h1 hv hfl fun w H5 k5 hw => ⟨_, _, _, rfl, ?_⟩
  intro H7 d7
  have k7 := k5.call d7.keep
  refine h2 (k7.fl hfl) fun H9 k9' => ⟨_, rfl, fun h => absurd rfl h, fun _ => ⟨fun _ => leafT rfl, fun hn => ?_⟩⟩
  have k9 := k7.call k9'
  have hok : (greedyR n cs).2.1 = 0 := Classical.not_not.1 fun h => hn (.inl h)
  have hn8 : n ≤ 8 := by have : ¬ n > 8 := fun h => hn (.inr h); omega
  obtain ⟨g1, g2, g3⟩ := greedyR_ok hok
  obtain ⟨_, g4, g5, g6⟩ := fault_ok g1
  rw [g3] at hw
  have hw9 := (hw.keep d7.keep).keep k9'
  refine ⟨fun m i l H' => ∃ (j : Nat) (own : Nat → Bool) (xs : List (AV × TR)), i = j ∧ j + m = n.toNat ∧ Keep H9.length H9 H' ∧ PT H9.length own H' l xs ∧ xs.map (·.2) = trL cs j, n.toNat,
    ⟨0, fun _ => true, [], rfl, by omega, Keep.refl _, ⟨Own.nil, fun x hx => by simp at hx, fun b hb => absurd hb at_empty, fun x hx => by simp at hx⟩, rfl⟩, ?_⟩
  rintro m _ l H24 ⟨j, own, xs, rfl, hm, k24, pt, hxs⟩
  have k24' := k9.call k24
  have harr := pt.arr
  rw [hxs] at harr
  obtain ⟨da1, da2⟩ := decA_trL (cs := cs) (n := n) (i := j) g6 ⟨g4, hn8⟩ (by omega)
  have hres := res_trL (cs := cs) (n := n) (i := j) g6 ⟨g4, hn8⟩ (by omega)
  refine ⟨fun hlt => ?_, fun hge => ?_⟩
  · have hnx : nextE n (trL cs j) = (⟨(j : Int), greedy cs j⟩, (0, 0)) := by
      unfold nextE
      rw [if_pos hres, da2, if_neg (by omega), da1]
    refine h3 harr (k24'.fl hfl) fun x H29 k29 ox => ⟨_, _, _, _, rfl, ?_⟩
    rw [hnx] at ox ⊢
    replace ox : Own H24.length H29 1 x (greedy cs j).length (ints (greedy cs j)) := ox
    intro H31 d31 H32 d32
    have k32 := (k29.call d31.keep).call d32.keep
    have ox32 := (ox.keep d31.keep).keep d32.keep
    refine ⟨ox.scal, fun hx => ?_, fun _ => ?_⟩
    · rcases hx with hx | hx
      · exact absurd rfl hx
      · exact absurd rfl hx
    · have hx32 := own_ints ox32
      have hgl := greedy_len cs j
      obtain ⟨a34, H35, q1, q2, q3, _⟩ := (Acc.nil (H0 := H32) (H := H32)).appendP (fl := fl) (free := false) (bytes := 8) tInt.plain hx32 (Keep.refl _) ((k24'.call k32).fl hfl) (by simp only [List.length_nil]; omega) (by decide)
      rw [List.nil_append] at q2
      refine ⟨a34, H35, q1, ?_⟩
      intro b36 H37 n37
      obtain ⟨a38, H39, s1, s2, s3, _⟩ := q2.push (fl := fl) (free := false) (bytes := 8) (a := (j : Int)) rfl n37 q3 ((k24'.call k32).fl hfl) (by omega) (by decide)
      have hs39 := s2.arr s3
      have k39 := k32.call s3
      have hset : setCode n (-1) (greedy cs j ++ [(j : Int)]) = 0 := by
        obtain ⟨o1, o2⟩ := greedy_ok g6 j
        refine setCode_ok.2 ⟨fun x hx => ?_, List.pairwise_append.2 ⟨o1, List.pairwise_singleton _ _, fun a ha b hb => ?_⟩⟩
        · rcases List.mem_append.1 hx with hx | hx
          · have := greedy_mem hx; omega
          · rw [List.mem_singleton.1 hx]; omega
        · have := greedy_mem ha
          rw [List.mem_singleton.1 hb]; omega
      refine ⟨a38, H39, s1, h4 (hv.keep (k24'.call k39)) hs39 fun H43 k43 => ⟨_, _, _, rfl, ?_⟩⟩
      rw [failsR_of g1 hset]
      intro H45 d45
      have k45 := (k39.call k43).call d45.keep
      refine ⟨fun h => absurd rfl h, fun _ => ?_⟩
      intro b46 H47 n47
      have hox : Own H24.length H45 1 x (trP cs j).r.w.length (ints (trP cs j).r.w) := ((ox32.keep s3).keep k43).keep d45.keep
      have hxl : xs.length ≤ 2 ^ 20 := by
        have := congrArg List.length hxs
        rw [List.length_map, trL_len] at this; omega
      obtain ⟨a48, H49, t1, t2, t3, own', t4⟩ := pt.push (H := H45) (p := trP cs j) (fl := fl) k45 hox k24.len (k9.fl hfl) n47 hxl
      refine ⟨a48, H49, t1, m - 1, by omega, j + 1, own', xs ++ [(x, trP cs j)], wsucc (n := n.toNat) (by omega) (by omega), by omega, ?_, t4, by rw [List.map_append, hxs, trL_succ]; rfl⟩
      have k47 := (k24.call k45).call n47.keep
      refine ⟨Nat.le_refl _, Nat.le_trans k47.len t2, fun y hy => ?_⟩
      rw [t3 y (Nat.lt_of_lt_of_le hy k47.len) fun ha => by have := (pt.all.at_lt ha).1; omega, k47.get y hy]
  · have hj : j = n.toNat := by omega
    subst hj
    refine h5 harr (k24'.fl hfl) fun a b H55 k55 oa ob => ⟨_, _, _, _, rfl, ?_⟩
    rw [hres]
    intro H57 d57
    have oa57 := oa.keep d57.keep
    have ob57 := ob.keep d57.keep
    have ha := own_ints oa57
    rw [da1] at ha
    refine ⟨fun _ => ?_, fun h => absurd rfl h⟩
    refine h6 ha (hw9.keep ((k24.call k55).call d57.keep)) ⟨_, rfl, _, oa57.len, _, ob57.len, leafT ?_⟩
    rw [decide_eq_true rfl, wrap64 (by omega) (by omega)]
    simp only [Bool.true_and, beq_iff_eq]
    omega

end Sp
end Go.RM

