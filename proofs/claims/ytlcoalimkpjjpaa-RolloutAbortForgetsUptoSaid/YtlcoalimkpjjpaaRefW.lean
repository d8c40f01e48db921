import Derived.Test.YtlcoalimkpjjpaaRmVc
import Derived.Test.YtlcoalimkpjjpaaRmLib
import Derived.Test.YtlcoalimkpjjpaaCanW
import Derived.Test.YtlcoalimkpjjpaaRolW
/-
  Functions of the program as the abstract machine runs them, and what must be shown of a run: printed by RmPrint.
-/
namespace Go.RM
set_option linter.unusedVariables false
set_option maxRecDepth 4000
def rf_FFault : RFunc := ⟨2, 3, [.part 2 (some 2)],
 ((.seq (.ops [⟨.tomb 1 (.k (.agg [.int .i64 0, .int .i64 0])), none, (some 2), true⟩])
 ((.seq (.ops [⟨.move (.var 0), none, none, true⟩, ⟨.move (.var 1), none, none, true⟩, ⟨.build [.int .i64 0, .int .i64 0] [(0, 1, (.loc 0)), (1, 1, (.loc 1))], none, none, true⟩, ⟨.upd 2 0 (.var 2) (.loc 2), none, (some 2), true⟩])
 (.ret)))))⟩
theorem v_FFault {F : Nat → Option RFunc} {me : Nat} (hF : F me = some (rf_FFault )) {fl : Nat} {H : Heap} {Q : AV → Heap → Prop} (code0 : Int) (index1 : Int)
  (h : ∀ (H2 : Heap), Dead1 H 1 H2 → Q (.agg [(.int .i64 code0), (.int .i64 index1)]) H2) : Ret F fl me [(.int .i64 code0), (.int .i64 index1)] H Q := by
  refine ret_intro hF rfl ?_
  refine w_seq ?_
  refine w_run [1] ?_
  obtain ⟨H2, hb⟩ : ∃ H', Dead1 H 1 H' := ⟨_, ⟨rfl⟩⟩
  replace h := h H2 hb
  refine t_tomb true 1 (.agg [(.int .i64 0), (.int .i64 0)]) [(.int .i64 0), (.int .i64 0)] H2 H (by kernel_rfl) rfl hb ?_
  refine t_done [(.int .i64 code0), (.int .i64 index1), (.agg [(.int .i64 0), (.int .i64 0)])] H2 (by kernel_rfl) ?_
  refine then_norm ?_
  refine w_seq ?_
  refine w_run [0, 0, 1, 1] ?_
  refine t_build true [(.int .i64 0), (.int .i64 0)] [(0, 1, .loc 0), (1, 1, .loc 1)] [(.int .i64 code0), (.int .i64 index1)] [(.int .i64 code0), (.int .i64 index1)] H2 (by kernel_rfl) (fill_c (vs := [(.int .i64 code0)]) (size := 1) rfl (by kernel_rfl) (by kernel_rfl) (fill_c (vs := [(.int .i64 index1)]) (size := 1) rfl (by kernel_rfl) (by kernel_rfl) (by kernel_rfl))) ?_
  refine t_upd true 2 0 [(.int .i64 0), (.int .i64 0)] (.agg [(.int .i64 code0), (.int .i64 index1)]) [(.int .i64 code0), (.int .i64 index1)] [(.int .i64 code0), (.int .i64 index1)] H2 (by kernel_rfl) rfl (all_c rfl (all_c rfl all_n)) ⟨rfl, Nat.le_of_ble_eq_true (by kernel_rfl), rfl⟩ ?_
  refine t_done [(.int .i64 code0), (.int .i64 index1), (.agg [(.int .i64 code0), (.int .i64 index1)])] H2 (by kernel_rfl) ?_
  refine then_norm ?_
  refine w_ret ?_
  exact body_ret (vs := [(.agg [(.int .i64 code0), (.int .i64 index1)])]) _ (by kernel_rfl) rfl h

def rf_FWithout : RFunc := ⟨2, 7, [.var 2],
 ((.seq (.ops [⟨.move (.k (.empty)), none, (some 2), true⟩])
 ((.seq (.ops [⟨.move (.k (.empty)), none, (some 6), true⟩])
 ((.seq ((.seq (.ops [⟨.move (.k (.int .i64 0)), none, (some 3), true⟩])
 (.block 0 (.loop ((.seq ((.seq (.ops [⟨.move (.var 3), none, none, true⟩, ⟨.move (.var 0), none, none, true⟩, ⟨.len (.loc 1), none, none, true⟩, ⟨.bin .lss .no (.loc 0) (.loc 2), none, (some 4), true⟩])
 (.cond (.var 4) (.skip) (.exit 0))))
 ((.seq (.block 1 ((.seq (.ops [⟨.move (.var 0), none, none, true⟩, ⟨.move (.var 3), none, none, true⟩, ⟨.indexAddr 1 (.loc 0) (.loc 1), none, none, true⟩, ⟨.load none (.loc 2), none, none, true⟩, ⟨.move (.var 1), none, none, true⟩, ⟨.bin .neq .no (.loc 3) (.loc 4), none, (some 5), true⟩])
 (.cond (.var 5) (.ops [⟨.move (.var 6), none, none, true⟩, ⟨.move (.var 0), none, none, true⟩, ⟨.move (.var 3), none, none, true⟩, ⟨.indexAddr 1 (.loc 1) (.loc 2), none, none, true⟩, ⟨.load none (.loc 3), none, none, true⟩, ⟨.buildSlice 1 [.int .i64 0] [(0, 1, (.loc 4))] 1, none, none, true⟩, ⟨.append 1 8 (.loc 0) (.loc 5), none, none, true⟩, ⟨.move (.loc 6), none, (some 6), true⟩]) (.skip)))))
 (.ops [⟨.move (.var 3), none, none, true⟩, ⟨.bin .add .no (.loc 0) (.k (.int .i64 1)), none, none, true⟩, ⟨.move (.loc 1), none, (some 3), true⟩])))))))))
 ((.seq (.ops [⟨.move (.var 6), none, none, true⟩, ⟨.move (.loc 0), none, (some 2), true⟩])
 (.ret)))))))))⟩
theorem v_FWithout {F : Nat → Option RFunc} {me : Nat} (hF : F me = some (rf_FWithout )) {fl : Nat} {H : Heap} {Q : AV → Heap → Prop} (l0 : AV) (n1 : Int)
  (h : ∃ (J2 : Nat → Int → AV → Heap → Prop) (k3 : Nat), J2 k3 0 .empty H ∧ (∀ (m4 : Nat) (i5 : Int) (out8 : AV) (H9 : Heap), J2 m4 i5 out8 H9 → ∃ len10 : Nat, lenA l0 = some len10 ∧ ((i5 < (len10 : Int)) → ∃ (e11 : Int), getA H9 1 none l0 i5 0 = some (.int .i64 e11) ∧ ((e11 ≠ n1) → ∃ (e13 : Int), getA H9 1 none l0 i5 0 = some (.int .i64 e13) ∧ ∀ (b15 : Nat) (H16 : Heap), NewB H9 1 [(.int .i64 e13)] b15 H16 → ∃ (a17 : AV) (H18 : Heap), appA fl true 1 8 H16 out8 (.slice b15 0 1 (some 1)) = some (a17, H18) ∧ ∃ m19 : Nat, m19 < m4 ∧ J2 m19 (IntKind.wrap .i64 (i5 + 1)) a17 H18) ∧ (¬(e11 ≠ n1) → ∃ m20 : Nat, m20 < m4 ∧ J2 m20 (IntKind.wrap .i64 (i5 + 1)) out8 H9)) ∧ (¬(i5 < (len10 : Int)) → Q out8 H9))) : Ret F fl me [l0, (.int .i64 n1)] H Q := by
  refine ret_intro hF rfl ?_
  refine w_seq ?_
  refine w_run [0] ?_
  refine t_done [l0, (.int .i64 n1), .empty, .undef, .undef, .undef, .undef] H (by kernel_rfl) ?_
  refine then_norm ?_
  refine w_seq ?_
  refine w_run [0] ?_
  refine t_done [l0, (.int .i64 n1), .empty, .undef, .undef, .undef, .empty] H (by kernel_rfl) ?_
  refine then_norm ?_
  refine w_seq ?_
  refine w_seq ?_
  refine w_run [0] ?_
  refine t_done [l0, (.int .i64 n1), .empty, (.int .i64 0), .undef, .undef, .empty] H (by kernel_rfl) ?_
  refine then_norm ?_
  refine w_block ?_
  obtain ⟨J2, k3, h0, h⟩ := h
  refine w_loop (I := fun mI EI HI => ∃ (i5 : Int) (d6 : AV) (d7 : AV) (out8 : AV), EI = [l0, (.int .i64 n1), .empty, (.int .i64 i5), d6, d7, out8] ∧ J2 mI i5 out8 HI) ?_ k3 ⟨_, _, _, _, rfl, h0⟩
  clear h0
  rintro m4 EI H9 ⟨i5, d6, d7, out8, rfl, hJ⟩
  replace h := h m4 i5 out8 H9 hJ
  clear hJ
  refine w_seq ?_
  refine w_seq ?_
  refine w_run [0, 0, 1, 0] ?_
  obtain ⟨len10, hl, h⟩ := h
  refine t_len true l0 len10 H9 (by kernel_rfl) hl ?_
  refine t_done [l0, (.int .i64 n1), .empty, (.int .i64 i5), (.bool (decide (i5 < (len10 : Int)))), d7, out8] H9 (by kernel_rfl) ?_
  refine then_norm ?_
  refine w_cond (t := (decide (i5 < (len10 : Int)))) rfl (fun hc => ?_) (fun hc => ?_)
  · replace h := h.1 (is_dec.t hc)
    refine w_skip ?_
    refine then_norm ?_
    refine w_seq ?_
    refine w_block ?_
    refine w_seq ?_
    refine w_run [0, 0, 1, 1, 0, 0] ?_
    obtain ⟨e11, hg12, h⟩ := h
    refine t_idxG true 1 l0 .i64 i5 H9 (by kernel_rfl) hg12 ?_
    refine t_loadG true none 1 l0 i5 0 (.int .i64 e11) H9 (by kernel_rfl) hg12 ?_
    refine t_done [l0, (.int .i64 n1), .empty, (.int .i64 i5), (.bool (decide (i5 < (len10 : Int)))), (.bool (e11 != n1)), out8] H9 (by kernel_rfl) ?_
    refine then_norm ?_
    refine w_cond (t := (e11 != n1)) rfl (fun hc => ?_) (fun hc => ?_)
    · replace h := h.1 (is_ne.t hc)
      refine w_run [0, 0, 0, 1, 1, 1, 1, 0] ?_
      obtain ⟨e13, hg14, h⟩ := h
      refine t_idxG true 1 l0 .i64 i5 H9 (by kernel_rfl) hg14 ?_
      refine t_loadG true none 1 l0 i5 0 (.int .i64 e13) H9 (by kernel_rfl) hg14 ?_
      obtain ⟨b15, H16, hb⟩ : ∃ b H', NewB H9 1 [(.int .i64 e13)] b H' := ⟨_, _, rfl, rfl⟩
      replace h := h b15 H16 hb
      refine t_bs true 1 [(.int .i64 0)] [(0, 1, .loc 0)] 1 [(.int .i64 e13)] [(.int .i64 e13)] b15 H16 H9 (by kernel_rfl) (fill_c (vs := [(.int .i64 e13)]) (size := 1) rfl (by kernel_rfl) (by kernel_rfl) (by kernel_rfl)) hb ?_
      obtain ⟨a17, H18, ha, h⟩ := h
      refine t_app true 1 8 out8 (.slice b15 0 1 (some 1)) a17 H18 H16 (by kernel_rfl) ha ?_
      refine t_done [l0, (.int .i64 n1), .empty, (.int .i64 i5), (.bool (decide (i5 < (len10 : Int)))), (.bool (e11 != n1)), a17] H18 (by kernel_rfl) ?_
      refine block_norm ?_
      refine then_norm ?_
      refine w_run [0, 0, 0] ?_
      refine t_done [l0, (.int .i64 n1), .empty, (.int .i64 (IntKind.wrap .i64 (i5 + 1))), (.bool (decide (i5 < (len10 : Int)))), (.bool (e11 != n1)), a17] H18 (by kernel_rfl) ?_
      obtain ⟨m', hm, h⟩ := h
      refine loop_norm ⟨m', hm, _, _, _, _, rfl, h⟩
    · replace h := h.2 (is_ne.f hc)
      refine w_skip ?_
      refine block_norm ?_
      refine then_norm ?_
      refine w_run [0, 0, 0] ?_
      refine t_done [l0, (.int .i64 n1), .empty, (.int .i64 (IntKind.wrap .i64 (i5 + 1))), (.bool (decide (i5 < (len10 : Int)))), (.bool (e11 != n1)), out8] H9 (by kernel_rfl) ?_
      obtain ⟨m', hm, h⟩ := h
      refine loop_norm ⟨m', hm, _, _, _, _, rfl, h⟩
  · replace h := h.2 (is_dec.f hc)
    refine w_exit ?_
    refine then_exit ?_
    refine loop_exit ?_
    refine block_exit ?_
    refine then_norm ?_
    refine w_seq ?_
    refine w_run [0, 0] ?_
    refine t_done [l0, (.int .i64 n1), out8, (.int .i64 i5), (.bool (decide (i5 < (len10 : Int)))), d7, out8] H9 (by kernel_rfl) ?_
    refine then_norm ?_
    refine w_ret ?_
    exact body_ret (vs := [out8]) _ (by kernel_rfl) rfl h

def rf_FEqualInts : RFunc := ⟨2, 7, [.var 2],
 ((.seq (.ops [⟨.move (.k (.bool false)), none, (some 2), true⟩])
 ((.seq ((.seq (.ops [⟨.move (.var 0), none, none, true⟩, ⟨.len (.loc 0), none, none, true⟩, ⟨.move (.var 1), none, none, true⟩, ⟨.len (.loc 2), none, none, true⟩, ⟨.bin .neq .no (.loc 1) (.loc 3), none, (some 3), true⟩])
 (.cond (.var 3) ((.seq (.ops [⟨.move (.k (.bool false)), none, (some 2), true⟩])
 (.ret))) (.skip))))
 ((.seq ((.seq (.ops [⟨.move (.k (.int .i64 0)), none, (some 4), true⟩])
 (.block 0 (.loop ((.seq ((.seq (.ops [⟨.move (.var 4), none, none, true⟩, ⟨.move (.var 0), none, none, true⟩, ⟨.len (.loc 1), none, none, true⟩, ⟨.bin .lss .no (.loc 0) (.loc 2), none, (some 5), true⟩])
 (.cond (.var 5) (.skip) (.exit 0))))
 ((.seq (.block 1 ((.seq (.ops [⟨.move (.var 0), none, none, false⟩, ⟨.move (.var 4), none, none, false⟩, ⟨.indexAddr 1 (.loc 0) (.loc 1), none, none, false⟩, ⟨.load none (.loc 2), none, none, false⟩, ⟨.move (.var 1), none, none, false⟩, ⟨.move (.var 4), none, none, false⟩, ⟨.indexAddr 1 (.loc 4) (.loc 5), none, none, false⟩, ⟨.load none (.loc 6), none, none, false⟩, ⟨.bin .neq .no (.loc 3) (.loc 7), none, (some 6), true⟩])
 (.cond (.var 6) ((.seq (.ops [⟨.move (.k (.bool false)), none, (some 2), true⟩])
 (.ret))) (.skip)))))
 (.ops [⟨.move (.var 4), none, none, true⟩, ⟨.bin .add .no (.loc 0) (.k (.int .i64 1)), none, none, true⟩, ⟨.move (.loc 1), none, (some 4), true⟩])))))))))
 ((.seq (.ops [⟨.move (.k (.bool true)), none, (some 2), true⟩])
 (.ret)))))))))⟩
theorem v_FEqualInts {F : Nat → Option RFunc} {me : Nat} (hF : F me = some (rf_FEqualInts )) {fl : Nat} {H : Heap} {Q : AV → Heap → Prop} (a0 : AV) (b1 : AV)
  (h : ∃ len2 : Nat, lenA a0 = some len2 ∧ ∃ len3 : Nat, lenA b1 = some len3 ∧ (((len2 : Int) ≠ (len3 : Int)) → Q (.bool false) H) ∧ (¬((len2 : Int) ≠ (len3 : Int)) → ∃ (J4 : Nat → Int → Prop) (k5 : Nat), J4 k5 0 ∧ (∀ (m6 : Nat) (i8 : Int), J4 m6 i8 → ∃ len11 : Nat, lenA a0 = some len11 ∧ ((i8 < (len11 : Int)) → ∃ (e12 : Int), getA H 1 none a0 i8 0 = some (.int .i64 e12) ∧ ∃ (e14 : Int), getA H 1 none b1 i8 0 = some (.int .i64 e14) ∧ ((e12 ≠ e14) → Q (.bool false) H) ∧ (¬(e12 ≠ e14) → ∃ m16 : Nat, m16 < m6 ∧ J4 m16 (IntKind.wrap .i64 (i8 + 1)))) ∧ (¬(i8 < (len11 : Int)) → Q (.bool true) H)))) : Ret F fl me [a0, b1] H Q := by
  refine ret_intro hF rfl ?_
  refine w_seq ?_
  refine w_run [0] ?_
  refine t_done [a0, b1, (.bool false), .undef, .undef, .undef, .undef] H (by kernel_rfl) ?_
  refine then_norm ?_
  refine w_seq ?_
  refine w_seq ?_
  refine w_run [0, 1, 0, 1, 0] ?_
  obtain ⟨len2, hl, h⟩ := h
  refine t_len true a0 len2 H (by kernel_rfl) hl ?_
  obtain ⟨len3, hl, h⟩ := h
  refine t_len true b1 len3 H (by kernel_rfl) hl ?_
  refine t_done [a0, b1, (.bool false), (.bool ((len2 : Int) != (len3 : Int))), .undef, .undef, .undef] H (by kernel_rfl) ?_
  refine then_norm ?_
  refine w_cond (t := ((len2 : Int) != (len3 : Int))) rfl (fun hc => ?_) (fun hc => ?_)
  · replace h := h.1 (is_ne.t hc)
    refine w_seq ?_
    refine w_run [0] ?_
    refine t_done [a0, b1, (.bool false), (.bool ((len2 : Int) != (len3 : Int))), .undef, .undef, .undef] H (by kernel_rfl) ?_
    refine then_norm ?_
    refine w_ret ?_
    refine then_ret ?_
    exact body_ret (vs := [(.bool false)]) _ (by kernel_rfl) rfl h
  · replace h := h.2 (is_ne.f hc)
    refine w_skip ?_
    refine then_norm ?_
    refine w_seq ?_
    refine w_seq ?_
    refine w_run [0] ?_
    refine t_done [a0, b1, (.bool false), (.bool ((len2 : Int) != (len3 : Int))), (.int .i64 0), .undef, .undef] H (by kernel_rfl) ?_
    refine then_norm ?_
    refine w_block ?_
    obtain ⟨J4, k5, h0, h⟩ := h
    refine w_loop (I := fun mI EI HI => ∃ (d7 : AV) (i8 : Int) (d9 : AV) (d10 : AV), EI = [a0, b1, d7, (.bool ((len2 : Int) != (len3 : Int))), (.int .i64 i8), d9, d10] ∧ H = HI ∧ J4 mI i8) ?_ k5 ⟨_, _, _, _, rfl, rfl, h0⟩
    clear h0
    rintro m6 EI HI ⟨d7, i8, d9, d10, rfl, rfl, hJ⟩
    replace h := h m6 i8  hJ
    clear hJ
    refine w_seq ?_
    refine w_seq ?_
    refine w_run [0, 0, 1, 0] ?_
    obtain ⟨len11, hl, h⟩ := h
    refine t_len true a0 len11 H (by kernel_rfl) hl ?_
    refine t_done [a0, b1, d7, (.bool ((len2 : Int) != (len3 : Int))), (.int .i64 i8), (.bool (decide (i8 < (len11 : Int)))), d10] H (by kernel_rfl) ?_
    refine then_norm ?_
    refine w_cond (t := (decide (i8 < (len11 : Int)))) rfl (fun hc => ?_) (fun hc => ?_)
    · replace h := h.1 (is_dec.t hc)
      refine w_skip ?_
      refine then_norm ?_
      refine w_seq ?_
      refine w_block ?_
      refine w_seq ?_
      refine w_run [0, 0, 1, 1, 0, 0, 1, 1, 0] ?_
      obtain ⟨e12, hg13, h⟩ := h
      refine t_idxG false 1 a0 .i64 i8 H (by kernel_rfl) hg13 ?_
      refine t_loadG false none 1 a0 i8 0 (.int .i64 e12) H (by kernel_rfl) hg13 ?_
      obtain ⟨e14, hg15, h⟩ := h
      refine t_idxG false 1 b1 .i64 i8 H (by kernel_rfl) hg15 ?_
      refine t_loadG false none 1 b1 i8 0 (.int .i64 e14) H (by kernel_rfl) hg15 ?_
      refine t_done [a0, b1, d7, (.bool ((len2 : Int) != (len3 : Int))), (.int .i64 i8), (.bool (decide (i8 < (len11 : Int)))), (.bool (e12 != e14))] H (by kernel_rfl) ?_
      refine then_norm ?_
      refine w_cond (t := (e12 != e14)) rfl (fun hc => ?_) (fun hc => ?_)
      · replace h := h.1 (is_ne.t hc)
        refine w_seq ?_
        refine w_run [0] ?_
        refine t_done [a0, b1, (.bool false), (.bool ((len2 : Int) != (len3 : Int))), (.int .i64 i8), (.bool (decide (i8 < (len11 : Int)))), (.bool (e12 != e14))] H (by kernel_rfl) ?_
        refine then_norm ?_
        refine w_ret ?_
        refine block_ret ?_
        refine then_ret ?_
        refine loop_ret ?_
        refine block_ret ?_
        refine then_ret ?_
        exact body_ret (vs := [(.bool false)]) _ (by kernel_rfl) rfl h
      · replace h := h.2 (is_ne.f hc)
        refine w_skip ?_
        refine block_norm ?_
        refine then_norm ?_
        refine w_run [0, 0, 0] ?_
        refine t_done [a0, b1, d7, (.bool ((len2 : Int) != (len3 : Int))), (.int .i64 (IntKind.wrap .i64 (i8 + 1))), (.bool (decide (i8 < (len11 : Int)))), (.bool (e12 != e14))] H (by kernel_rfl) ?_
        obtain ⟨m', hm, h⟩ := h
        refine loop_norm ⟨m', hm, _, _, _, _, rfl, rfl, h⟩
    · replace h := h.2 (is_dec.f hc)
      refine w_exit ?_
      refine then_exit ?_
      refine loop_exit ?_
      refine block_exit ?_
      refine then_norm ?_
      refine w_seq ?_
      refine w_run [0] ?_
      refine t_done [a0, b1, (.bool true), (.bool ((len2 : Int) != (len3 : Int))), (.int .i64 i8), (.bool (decide (i8 < (len11 : Int)))), d10] H (by kernel_rfl) ?_
      refine then_norm ?_
      refine w_ret ?_
      exact body_ret (vs := [(.bool true)]) _ (by kernel_rfl) rfl h

end Go.RM

/-
  The reference's functions on lists of numbers: what they return.
-/
namespace Go.RM
set_option linter.unusedSimpArgs false
set_option linter.unusedVariables false

abbrev i64 (n : Int) : AV := .int .i64 n
abbrev flt (c i : Int) : AV := .agg [.int .i64 c, .int .i64 i]

/-- One more, for a place in a list. -/
theorem wsucc {i n : Nat} (h : i < n) (hn : n ≤ 9223372036854775807) : IntKind.wrap .i64 ((i : Int) + 1) = ((i + 1 : Nat) : Int) := by
  rw [wrap64 (by omega) (by omega)]; omega
theorem wpred {i : Nat} (h : 0 < i) (hn : i ≤ 9223372036854775807) : IntKind.wrap .i64 ((i : Int) - 1) = ((i - 1 : Nat) : Int) := by
  rw [wrap64 (by omega) (by omega)]; omega

variable {F : Nat → Option RFunc}

abbrev FFaultC (F : Nat → Option RFunc) (f : Nat) : Prop := ∀ {fl H Q c i}, (∀ H', Keep H.length H H' → Q (flt c i) H') → Ret F fl f [i64 c, i64 i] H Q
theorem fFault_c {f : Nat} (hF : F f = some rf_FFault) : FFaultC F f := fun hq => by
  refine v_FFault hF _ _ ?_
  intro H2 h; exact hq H2 h.keep

abbrev FEqualIntsC (F : Nat → Option RFunc) (f : Nat) : Prop := ∀ {fl H Q a b l m}, Ints H a l → Ints H b m → Q (.bool (decide (l = m))) H → Ret F fl f [a, b] H Q
theorem fEqualInts_c {f : Nat} (hF : F f = some rf_FEqualInts) : FEqualIntsC F f := fun {fl H Q a b l m} ha hb hq => by
  refine v_FEqualInts hF _ _ ?_
  have hs := ha.small
  refine ⟨_, ha.len, _, hb.len, fun hne => ?_, fun he => ?_⟩
  · rw [decide_eq_false (fun h => hne (by rw [h]))] at hq; exact hq
  · have he : l.length = m.length := by omega
    refine ⟨fun k v => ∃ i : Nat, v = i ∧ i + k = l.length ∧ (l.take i = m.take i), l.length, ⟨0, rfl, by omega, by simp⟩, ?_⟩
    rintro k _ ⟨i, rfl, hk, hi⟩
    refine ⟨_, ha.len, fun hlt => ?_, fun hge => ?_⟩
    · have hil : i < l.length := by omega
      refine ⟨_, ha.int hil, _, hb.int (by omega), fun hne => ?_, fun heq => ?_⟩
      · rw [decide_eq_false (fun h => hne (by subst h; rfl))] at hq; exact hq
      · refine ⟨k - 1, by omega, i + 1, wsucc hil hs, by omega, ?_⟩
        have heq : l[i] = m[i] := by omega
        rw [List.take_succ_eq_append_getElem hil, List.take_succ_eq_append_getElem (by omega), hi, heq]
    · rw [List.take_of_length_le (by omega), List.take_of_length_le (by omega)] at hi
      rw [decide_eq_true hi] at hq; exact hq

abbrev FWithoutC (F : Nat → Option RFunc) (f : Nat) : Prop := ∀ {fl H Q v l n}, Ints H v l → fl ≤ H.length → l.length ≤ 2 ^ 30 → (∀ w H', Keep H.length H H' → Acc H tInt H' w (l.filter (fun x => x != n)) → Q w H') → Ret F fl f [v, i64 n] H Q
theorem fWithout_c {f : Nat} (hF : F f = some rf_FWithout) : FWithoutC F f := fun {fl H Q v l n} hv hfl hl hq => by
  refine v_FWithout hF _ _ ?_
  refine ⟨fun m v w H' => ∃ i : Nat, v = i ∧ i + m = l.length ∧ Keep H.length H H' ∧ Acc H tInt H' w ((l.take i).filter (fun x => x != n)), l.length, ⟨0, rfl, by omega, Keep.refl H, by simpa using Acc.nil⟩, ?_⟩
  rintro m _ w H' ⟨i, rfl, hm, hk, hw⟩
  refine ⟨_, (hv.keep hk).len, fun hlt => ?_, fun hge => ?_⟩
  · have hil : i < l.length := by omega
    have hlen : ((l.take i).filter (fun x => x != n)).length ≤ i := by
      have := List.length_filter_le (fun x => x != n) (l.take i)
      rw [List.length_take] at this; omega
    refine ⟨_, (hv.keep hk).int hil, fun hne => ⟨_, (hv.keep hk).int hil, fun b H1 hb => ?_⟩, fun he => ?_⟩
    · obtain ⟨w', H2, h1, h2, h3, _⟩ := hw.push (fl := fl) (free := true) (bytes := 8) (a := l[i]) rfl hb hk hfl (by omega) (by omega)
      refine ⟨w', H2, h1, m - 1, by omega, i + 1, wsucc hil hv.small, by omega, h3, ?_⟩
      rw [List.take_succ_eq_append_getElem hil, List.filter_append]
      have : [l[i]].filter (fun x => x != n) = [l[i]] := by simp [hne]
      rw [this]; exact h2
    · refine ⟨m - 1, by omega, i + 1, wsucc hil hv.small, by omega, hk, ?_⟩
      rw [List.take_succ_eq_append_getElem hil, List.filter_append]
      have : [l[i]].filter (fun x => x != n) = [] := by simp at he; simp [he]
      rw [this, List.append_nil]; exact hw
  · rw [List.take_of_length_le (by omega)] at hw
    exact hq w H' hk hw

end Go.RM

/-
  Numbers of choices, and tails of their sums.
-/
namespace Go.RM

def ch : Nat → Nat → Nat
  | _, 0 => 1
  | 0, _ + 1 => 0
  | n + 1, k + 1 => ch n k + ch n (k + 1)

theorem ch_zero (n : Nat) : ch n 0 = 1 := by cases n <;> rfl

theorem ch_gt : ∀ (n k : Nat), n < k → ch n k = 0
  | 0, 0, h => by omega
  | 0, k + 1, _ => rfl
  | n + 1, 0, h => by omega
  | n + 1, k + 1, h => by rw [ch, ch_gt n k (by omega), ch_gt n (k + 1) (by omega)]

theorem ch_pos : ∀ (n k : Nat), k ≤ n → 0 < ch n k
  | n, 0, _ => by rw [ch_zero]; omega
  | 0, k + 1, h => by omega
  | n + 1, k + 1, h => by rw [ch]; have := ch_pos n k (by omega); omega

theorem ch_step : ∀ (n k : Nat), ch n (k + 1) * (k + 1) = ch n k * (n - k)
  | 0, 0 => rfl
  | 0, k + 1 => by simp [ch]
  | n + 1, 0 => by
    have := ch_step n 0
    show (ch n 0 + ch n 1) * 1 = ch (n + 1) 0 * (n + 1 - 0)
    rw [ch_zero] at this
    rw [ch_zero, ch_zero]
    simp only [Nat.zero_add] at this
    omega
  | n + 1, j + 1 => by
    have h1 := ch_step n j
    have h2 := ch_step n (j + 1)
    rw [ch, ch, Nat.add_mul]
    have h3 : ch n (j + 1) * (j + 1 + 1) = ch n (j + 1) * (j + 1) + ch n (j + 1) := by rw [Nat.mul_succ]
    rw [h3, h1, h2]
    by_cases h : j + 1 ≤ n
    · have e : n + 1 - (j + 1) = n - j := by omega
      have e2 : n - j = (n - (j + 1)) + 1 := by omega
      rw [e, Nat.add_mul]
      have : ch n (j + 1) * (n - j) = ch n (j + 1) * (n - (j + 1)) + ch n (j + 1) := by rw [e2, Nat.mul_succ]
      omega
    · rw [ch_gt n (j + 1) (by omega)]
      by_cases e : j ≤ n
      · have : j = n := by omega
        subst this; simp
      · rw [ch_gt n j (by omega)]; simp

theorem ch_le : ∀ (n k : Nat), ch n k ≤ 2 ^ n
  | n, 0 => by rw [ch_zero]; exact Nat.one_le_two_pow
  | 0, k + 1 => by simp [ch]
  | n + 1, k + 1 => by rw [ch, Nat.pow_succ]; have := ch_le n k; have := ch_le n (k + 1); omega

/-- The sum of ch B k * ch G (m - k) over the k from m + 1 - d to m. -/
def tl (B G m : Nat) : Nat → Nat
  | 0 => 0
  | d + 1 => ch B (m - d) * ch G d + tl B G m d

theorem tl_shift (B G m : Nat) : ∀ d, d ≤ m → tl (B + 1) G m d + ch B (m - d) * ch G d = tl B (G + 1) m (d + 1)
  | 0, _ => by simp [tl, ch_zero]
  | d + 1, h => by
    have ih := tl_shift B G m d (by omega)
    rw [tl, tl, ← ih]
    have e : m - d = m - (d + 1) + 1 := by omega
    rw [e, ch, ch, Nat.add_mul, Nat.mul_add]
    omega

theorem tl_all_shift (B G m : Nat) : tl B (G + 1) m (m + 1) = tl (B + 1) G m (m + 1) := by
  have := tl_shift B G m m (Nat.le_refl _)
  rw [← this]
  conv => rhs; rw [tl]
  rw [Nat.sub_self, ch_zero, ch_zero]
  omega

theorem tl_zero (N m : Nat) : ∀ d, tl N 0 m (d + 1) = ch N m
  | 0 => by simp [tl, ch_zero]
  | d + 1 => by rw [tl, tl_zero N m d]; simp [ch]

/-- All ways together. -/
theorem tl_all : ∀ (G B m : Nat), tl B G m (m + 1) = ch (B + G) m
  | 0, B, m => tl_zero B m m
  | G + 1, B, m => by rw [tl_all_shift, tl_all G (B + 1) m]; congr 1; omega

theorem tl_mono (B G m : Nat) : ∀ {d e : Nat}, d ≤ e → tl B G m d ≤ tl B G m e := by
  intro d e h
  induction e with
  | zero => have : d = 0 := by omega
            subst this; exact Nat.le_refl _
  | succ e ih =>
    by_cases c : d = e + 1
    · subst c; exact Nat.le_refl _
    · have := ih (by omega); rw [tl]; omega

theorem tl_le_all (B G m d : Nat) (h : d ≤ m + 1) : tl B G m d ≤ ch (B + G) m := by rw [← tl_all]; exact tl_mono B G m h

end Go.RM

/-
  Package canary and its reference: what their functions return.
-/
namespace Go.RM
set_option linter.unusedSimpArgs false
set_option linter.unusedVariables false
set_option maxRecDepth 4000

variable {F : Nat → Option RFunc}

abbrev cnt (g b : Int) : AV := .agg [i64 g, i64 b]

/-- The binomials of n, the first k + 1 of them. -/
def rowK (n k : Nat) : List Int := (List.range (n + 1)).map fun j => if j ≤ k then (ch n j : Int) else 0
theorem rowK_len (n k : Nat) : (rowK n k).length = n + 1 := by simp [rowK]
theorem rowK_get {n k j : Nat} (h : j < (rowK n k).length) (hk : j ≤ k) : (rowK n k)[j] = (ch n j : Int) := by simp [rowK, hk]
theorem rowK_set {n k : Nat} (h : k + 1 ≤ n) : (rowK n k).set (k + 1) (ch n (k + 1) : Int) = rowK n (k + 1) := by
  apply List.ext_getElem?
  intro j
  rw [List.getElem?_set]
  by_cases e : k + 1 = j
  · subst e
    rw [if_pos (by rfl), if_pos (by rw [rowK_len]; omega)]
    simp only [rowK, List.getElem?_map]
    rw [List.getElem?_range (by omega), Option.map_some, if_pos (Nat.le_refl _)]
  · rw [if_neg e]
    simp only [rowK, List.getElem?_map]
    by_cases hj : j < n + 1
    · simp only [List.getElem?_range hj, Option.map_some]
      by_cases h1 : j ≤ k
      · rw [if_pos h1, if_pos (by omega)]
      · rw [if_neg h1, if_neg (by omega)]
    · rw [List.getElem?_eq_none (by simp; omega)]; rfl

theorem pow50 : (2 : Nat) ^ 50 = 1125899906842624 := by decide

theorem ch_bound {n k : Nat} (h : n ≤ 50) : ch n k ≤ 1125899906842624 := by
  have := Nat.le_trans (ch_le n k) (Nat.pow_le_pow_right (by omega) h)
  rw [pow50] at this; exact this

abbrev RowC (F : Nat → Option RFunc) (f : Nat) : Prop := ∀ {fl H Q} {n : Nat}, n ≤ 50 → fl ≤ H.length → (∀ b H', Keep H.length H H' → Row H' b (rowK n n) → H.length ≤ b → Q (rowV b (n + 1)) H') → Ret F fl f [i64 n] H Q

theorem row_c {f : Nat} (hF : F f = some rf_canary_row) : RowC F f := fun {fl H Q n} hn hfl hq => by
  refine v_canary_row hF _ ?_
  have e1 : IntKind.wrap .i64 ((n : Int) + 1) = ((n + 1 : Nat) : Int) := by rw [wrap64 (by omega) (by omega)]; omega
  rw [e1, Int.toNat_natCast]
  refine ⟨⟨by omega, by omega, by omega, by omega⟩, fun b H2 hb => ?_⟩
  have hr := Row.new hb (by omega)
  have hbl : H.length ≤ b := by rw [hb.b_eq]; exact Nat.le_refl _
  refine ⟨b, 0, Row.ptr (i := 0) (by omega), ?_⟩
  obtain ⟨H5, p1, p2, p3⟩ := hr.put (fl := fl) (i := 0) (x := 1) (by simp) (by omega)
  refine ⟨H5, p1, ?_⟩
  have hr0 : Row H5 b (rowK n 0) := by
    have : (List.replicate (n + 1) (0 : Int)).set 0 1 = rowK n 0 := by
      apply List.ext_getElem?
      intro j
      rw [List.getElem?_set]
      by_cases e : 0 = j
      · subst e; simp [rowK, ch_zero]
      · rw [if_neg e]
        by_cases hj : j < n + 1
        · simp [rowK, hj, List.getElem?_range hj]; omega
        · rw [List.getElem?_eq_none (by simp; omega), List.getElem?_eq_none (by rw [rowK_len]; omega)]
    rw [← this]; exact p2
  have k5 : Keep H.length H H5 := (hb.keep).tr (p3.keep hbl (Nat.le_trans hb.keep.low hb.keep.len))
  refine ⟨fun m v H' => ∃ k : Nat, v = k ∧ k + m = n ∧ Keep H.length H H' ∧ Row H' b (rowK n k), n, ⟨0, rfl, by omega, k5, hr0⟩, ?_⟩
  rintro m _ H' ⟨k, rfl, hm, hk, hrow⟩
  refine ⟨fun hlt => ?_, fun hge => ?_⟩
  · have hkn : k < n := by omega
    have e2 : IntKind.wrap .i64 ((k : Int) + 1) = ((k + 1 : Nat) : Int) := by rw [wrap64 (by omega) (by omega)]; omega
    have e3 : IntKind.wrap .i64 ((n : Int) - k) = ((n - k : Nat) : Int) := by rw [wrap64 (by omega) (by omega)]; omega
    have hkl : k < (rowK n k).length := by rw [rowK_len]; omega
    have hbound := ch_bound (n := n) (k := k) hn
    have hmul : ch n k * (n - k) ≤ 1125899906842624 * 50 := Nat.mul_le_mul hbound (by omega)
    have e4 : IntKind.wrap .i64 ((ch n k : Int) * ((n - k : Nat) : Int)) = ((ch n k * (n - k) : Nat) : Int) := by rw [← Int.natCast_mul, wrap64 (by omega) (by omega)]
    have hg := (hrow.arr (n := n + 1) (rowK_len n k).symm).int hkl
    rw [rowK_get hkl (Nat.le_refl _)] at hg
    refine ⟨_, hg, by rw [e2]; omega, b, k + 1, by rw [e2]; exact Row.ptr (by omega), ?_⟩
    have hst : ch n k * (n - k) / (k + 1) = ch n (k + 1) := by rw [← ch_step, Nat.mul_div_cancel _ (Nat.succ_pos k)]
    have e5 : IntKind.wrap .i64 (Int.tdiv (((ch n k * (n - k) : Nat) : Int)) ((k + 1 : Nat) : Int)) = (ch n (k + 1) : Int) := by
      rw [Int.tdiv_eq_ediv_of_nonneg (by omega), ← Int.natCast_ediv, hst]
      have := ch_bound (n := n) (k := k + 1) hn
      rw [wrap64 (by omega) (by omega)]
    rw [e3, e4, e2, e5]
    obtain ⟨H6, q1, q2, q3⟩ := hrow.put (fl := fl) (i := k + 1) (x := (ch n (k + 1) : Int)) (by rw [rowK_len]; omega) (by omega)
    rw [rowK_set (by omega)] at q2
    exact ⟨H6, q1, m - 1, by omega, k + 1, rfl, by omega, hk.tr (q3.keep hbl (Nat.le_trans hk.low hk.len)), q2⟩
  · have : k = n := by omega
    subst this
    exact hq b H' hk hrow hbl

/-! ### The ways -/

abbrev TailNC (F : Nat → Option RFunc) (f : Nat) : Prop := ∀ {fl H Q} {g1 b1 g2 b2 : Nat}, g1 + b1 ≤ 25 → g2 + b2 ≤ 25 → fl ≤ H.length →
  (∀ H', Keep H.length H H' → Q (.tuple [i64 (tl (b1 + b2) (g1 + g2) (g2 + b2) (g2 + 1) : Nat), i64 (ch (b1 + b2 + (g1 + g2)) (g2 + b2) : Nat)]) H') → Ret F fl f [cnt g1 b1, cnt g2 b2] H Q

theorem tl_none (B G m : Nat) : ∀ d, B + d < m + 1 → tl B G m d = 0
  | 0, _ => rfl
  | d + 1, h => by rw [tl, tl_none B G m d (by omega), ch_gt B (m - d) (by omega)]; simp

theorem tailN_c {f n1 : Nat} (hF : F f = some (rf_canary_tail n1)) (h1 : RowC F n1) : TailNC F f := fun {fl H Q g1 b1 g2 b2} hb1 hb2 hfl hq => by
  refine v_canary_tail hF _ _ _ _ ?_
  intro H4 d4 H5 d5
  have k5 := d4.keep.call d5.keep
  have e1 : IntKind.wrap .i64 ((g1 : Int) + g2) = ((g1 + g2 : Nat) : Int) := by rw [wrap64 (by omega) (by omega)]; omega
  have e2 : IntKind.wrap .i64 ((b1 : Int) + b2) = ((b1 + b2 : Nat) : Int) := by rw [wrap64 (by omega) (by omega)]; omega
  have e3 : IntKind.wrap .i64 ((g2 : Int) + b2) = ((g2 + b2 : Nat) : Int) := by rw [wrap64 (by omega) (by omega)]; omega
  rw [e1, e2, e3]
  refine h1 (by omega) (Nat.le_refl _) fun bg H7 k7 rg hbg => h1 (by omega) (k5.call k7 |>.fl hfl) fun bb H10 k10 rb hbb => ?_
  have rg' := rg.keep k10
  have hk10 := (k5.call k7).call k10
  have ag := rg'.arr (n := g1 + g2 + 1) (rowK_len _ _).symm
  have ab := rb.arr (n := b1 + b2 + 1) (rowK_len _ _).symm
  have hall : tl (b1 + b2) (g1 + g2) (g2 + b2) (g2 + 1) ≤ ch (b1 + b2 + (g1 + g2)) (g2 + b2) := tl_le_all _ _ _ _ (by omega)
  have hbd := ch_bound (n := b1 + b2 + (g1 + g2)) (k := g2 + b2) (by omega)
  refine ⟨fun m k acc => ∃ i a : Nat, k = i ∧ acc = a ∧ i + m = g2 + b2 + 1 ∧ b2 ≤ i ∧ a + tl (b1 + b2) (g1 + g2) (g2 + b2) m = tl (b1 + b2) (g1 + g2) (g2 + b2) (g2 + 1), g2 + 1, ⟨b2, 0, rfl, rfl, by omega, Nat.le_refl _, by omega⟩, ?_⟩
  rintro m _ _ ⟨i, a, rfl, rfl, hm, hi, ha⟩
  have e4 : IntKind.wrap .i64 (((b1 + b2 + 1 : Nat) : Int) - 1) = ((b1 + b2 : Nat) : Int) := by rw [wrap64 (by omega) (by omega)]; omega
  refine ⟨b1 + b2 + 1, ab.len' (rowK_len _ _), ?_⟩
  rw [e4, imin_eq]
  refine ⟨fun hle => ?_, fun hgt => ?_⟩
  · obtain ⟨m, rfl⟩ : ∃ m', m = m' + 1 := ⟨m - 1, by omega⟩
    have e5 : IntKind.wrap .i64 (((g2 + b2 : Nat) : Int) - i) = (m : Int) := by rw [wrap64 (by omega) (by omega)]; omega
    have e6 : IntKind.wrap .i64 ((i : Int) + 1) = ((i + 1 : Nat) : Int) := by rw [wrap64 (by omega) (by omega)]; omega
    have hm' : g2 + b2 - m = i := by omega
    have htl : tl (b1 + b2) (g1 + g2) (g2 + b2) (m + 1) = ch (b1 + b2) i * ch (g1 + g2) m + tl (b1 + b2) (g1 + g2) (g2 + b2) m := by rw [tl, hm']
    rw [e5, e6]
    refine ⟨g1 + g2 + 1, ag.len' (rowK_len _ _), fun hlt => ?_, fun hge => ?_⟩
    · have hbi : i < (rowK (b1 + b2) (b1 + b2)).length := by rw [rowK_len]; omega
      have hgm : m < (rowK (g1 + g2) (g1 + g2)).length := by rw [rowK_len]; omega
      have x1 := ab.int hbi
      have x2 := ag.int hgm
      rw [rowK_get hbi (by omega)] at x1
      rw [rowK_get hgm (by omega)] at x2
      refine ⟨_, x1, _, x2, m, Nat.lt_succ_self _, i + 1, a + ch (b1 + b2) i * ch (g1 + g2) m, rfl, ?_, by omega, by omega, by omega⟩
      have y1 : IntKind.wrap .i64 ((ch (b1 + b2) i : Int) * (ch (g1 + g2) m : Int)) = ((ch (b1 + b2) i * ch (g1 + g2) m : Nat) : Int) := by rw [← Int.natCast_mul, wrap64 (by omega) (by omega)]
      rw [y1, wrap64 (by omega) (by omega)]; omega
    · have h0 : ch (g1 + g2) m = 0 := ch_gt _ _ (by omega)
      rw [h0, Nat.mul_zero, Nat.zero_add] at htl
      exact ⟨m, Nat.lt_succ_self _, i + 1, a, rfl, rfl, by omega, by omega, by omega⟩
  · have hz : tl (b1 + b2) (g1 + g2) (g2 + b2) m = 0 := by
      by_cases hm0 : m = 0
      · subst hm0; rfl
      · exact tl_none _ _ _ _ (by omega)
    refine ⟨g1 + g2 + 1, ag.len' (rowK_len _ _), b1 + b2 + 1, ab.len' (rowK_len _ _), ?_⟩
    have e7 : IntKind.wrap .i64 (((g1 + g2 + 1 : Nat) : Int) + ((b1 + b2 + 1 : Nat) : Int)) = ((g1 + g2 + 1 + (b1 + b2 + 1) : Nat) : Int) := by rw [wrap64 (by omega) (by omega)]; omega
    have e8 : IntKind.wrap .i64 (((g1 + g2 + 1 + (b1 + b2 + 1) : Nat) : Int) - 2) = ((b1 + b2 + (g1 + g2) : Nat) : Int) := by rw [wrap64 (by omega) (by omega)]; omega
    rw [e7, e8]
    refine h1 (by omega) (hk10.fl hfl) fun b H30 k30 r30 _ => ?_
    have hl : g2 + b2 < (rowK (b1 + b2 + (g1 + g2)) (b1 + b2 + (g1 + g2))).length := by rw [rowK_len]; omega
    have x3 := (r30.arr (n := b1 + b2 + (g1 + g2) + 1) (rowK_len _ _).symm).int hl
    rw [rowK_get hl (by omega)] at x3
    refine ⟨_, x3, ?_⟩
    have ha' : a = tl (b1 + b2) (g1 + g2) (g2 + b2) (g2 + 1) := by omega
    rw [ha']
    exact hq H30 (hk10.call k30)

/-! ### Samples -/

/-- Samples that a side may have. -/
def okC (g b : Int) : Prop := 0 ≤ g ∧ 0 ≤ b ∧ g + b ≤ 25
instance (g b : Int) : Decidable (okC g b) := by unfold okC; exact inferInstance

theorem bad_iff {g b : Int} : (((((g < 0 ∨ b < 0) ∨ g > 25) ∨ b > 25) ∨ IntKind.wrap .i64 (g + b) > 25)) ↔ ¬ okC g b := by
  unfold okC
  by_cases h : 0 ≤ g ∧ 0 ≤ b ∧ g ≤ 25 ∧ b ≤ 25
  · rw [wrap64 (by omega) (by omega)]; omega
  · constructor
    · intro _ h'; omega
    · intro _
      by_cases h1 : g < 0
      · exact .inl (.inl (.inl (.inl h1)))
      · by_cases h2 : b < 0
        · exact .inl (.inl (.inl (.inr h2)))
        · by_cases h3 : g > 25
          · exact .inl (.inl (.inr h3))
          · exact .inl (.inr (by omega))

def validR (g b : Int) : Int × Int := if okC g b then (0, 0) else (3, -1)
abbrev fp (p : Int × Int) : AV := flt p.1 p.2

abbrev ValidC (F : Nat → Option RFunc) (f : Nat) : Prop := ∀ {fl H Q} {g b : Int}, (∀ H', Keep H.length H H' → Q (fp (validR g b)) H') → Ret F fl f [cnt g b] H Q
theorem valid_c {f : Nat} (hF : F f = some rf_canary_Validate) : ValidC F f := fun {fl H Q g b} hq => by
  refine v_canary_Validate hF _ _ ?_
  intro H2 d2 H3 d3
  have := hq H3 (d2.keep.call d3.keep)
  unfold validR at this
  refine ⟨fun h => ?_, fun h => ?_⟩
  · rw [if_neg (bad_iff.1 h)] at this; exact this
  · rw [if_pos (Decidable.not_not.1 fun h' => h (bad_iff.2 h'))] at this; exact this

def twoR (g1 b1 g2 b2 : Int) : Int × Int := if okC g1 b1 then (if okC g2 b2 then (0, 0) else (3, -2)) else (3, -1)

abbrev TwoC (F : Nat → Option RFunc) (f : Nat) : Prop := ∀ {fl H Q} {g1 b1 g2 b2 : Int}, (∀ H', Keep H.length H H' → Q (fp (twoR g1 b1 g2 b2)) H') → Ret F fl f [cnt g1 b1, cnt g2 b2] H Q
theorem two_c {f n1 : Nat} (hF : F f = some (rf_canary_two n1)) (h1 : ValidC F n1) : TwoC F f := fun {fl H Q g1 b1 g2 b2} hq => by
  refine v_canary_two hF _ _ _ _ ?_
  intro H4 d4 H5 d5 H6 d6
  have k6 := (d4.keep.call d5.keep).call d6.keep
  refine h1 fun H9 k9 => ⟨_, _, rfl, fun H11 d11 => ?_⟩
  have k11 := (k6.call k9).call d11.keep
  unfold twoR at hq
  by_cases o1 : okC g1 b1
  · rw [if_pos o1] at hq
    have e1 : validR g1 b1 = (0, 0) := if_pos o1
    rw [e1]
    refine ⟨fun h => absurd ⟨rfl, rfl, trivial⟩ h, fun _ => h1 fun H14 k14 => ⟨_, _, rfl, fun H16 d16 => ?_⟩⟩
    have k16 := (k11.call k14).call d16.keep
    by_cases o2 : okC g2 b2
    · rw [if_pos o2] at hq
      have e2 : validR g2 b2 = (0, 0) := if_pos o2
      rw [e2]
      exact ⟨fun h => absurd ⟨rfl, rfl, trivial⟩ h, fun _ => hq H16 k16⟩
    · rw [if_neg o2] at hq
      have e2 : validR g2 b2 = (3, -1) := if_neg o2
      rw [e2]
      exact ⟨fun _ => hq H16 k16, fun h => absurd (fun h' => by cases h'.1) h⟩
  · rw [if_neg o1] at hq
    have e1 : validR g1 b1 = (3, -1) := if_neg o1
    rw [e1]
    exact ⟨fun _ => hq H11 k11, fun h => absurd (fun h' => by cases h'.1) h⟩

/-! ### Tail, Decide -/

def waysI (g1 b1 g2 b2 : Int) : Int := (tl (b1.toNat + b2.toNat) (g1.toNat + g2.toNat) (g2.toNat + b2.toNat) (g2.toNat + 1) : Nat)
def allI (g1 b1 g2 b2 : Int) : Int := (ch (b1.toNat + b2.toNat + (g1.toNat + g2.toNat)) (g2.toNat + b2.toNat) : Nat)

theorem twoR_ok {g1 b1 g2 b2 : Int} (h : (twoR g1 b1 g2 b2).1 = 0) : okC g1 b1 ∧ okC g2 b2 ∧ twoR g1 b1 g2 b2 = (0, 0) := by
  unfold twoR at h ⊢
  split at h
  · rename_i h1
    split at h
    · rename_i h2; exact ⟨h1, h2, by rw [if_pos h1, if_pos h2]⟩
    · simp at h
  · simp at h

theorem twoR_iff {g1 b1 g2 b2 : Int} : ((twoR g1 b1 g2 b2).1 = 0 ∧ (twoR g1 b1 g2 b2).2 = 0 ∧ True) ↔ (twoR g1 b1 g2 b2).1 = 0 := ⟨fun h => h.1, fun h => by rw [(twoR_ok h).2.2]; exact ⟨rfl, rfl, trivial⟩⟩

theorem okC_nat {g b : Int} (h : okC g b) : g = (g.toNat : Int) ∧ b = (b.toNat : Int) ∧ g.toNat + b.toNat ≤ 25 := by
  unfold okC at h; omega

/-- tail, for samples as numbers of Go. -/
abbrev TailIC (F : Nat → Option RFunc) (f : Nat) : Prop := ∀ {fl H Q} {g1 b1 g2 b2 : Int}, okC g1 b1 → okC g2 b2 → fl ≤ H.length → (∀ H', Keep H.length H H' → Q (.tuple [i64 (waysI g1 b1 g2 b2), i64 (allI g1 b1 g2 b2)]) H') → Ret F fl f [cnt g1 b1, cnt g2 b2] H Q
theorem tailI_c {f : Nat} (h : TailNC F f) : TailIC F f := fun {fl H Q g1 b1 g2 b2} o1 o2 hfl hq => by
  obtain ⟨a1, a2, a3⟩ := okC_nat o1
  obtain ⟨c1, c2, c3⟩ := okC_nat o2
  have := h (fl := fl) (H := H) (Q := Q) a3 c3 hfl hq
  rw [← a1, ← a2, ← c1, ← c2] at this
  exact this

def verdictI (g1 b1 g2 b2 need pm : Int) : Int := if waysI g1 b1 g2 b2 * 1000 ≤ allI g1 b1 g2 b2 * pm then 3 else if g2 + b2 < need then 1 else 2

theorem ways_le {g1 b1 g2 b2 : Int} (o1 : okC g1 b1) (o2 : okC g2 b2) : 0 ≤ waysI g1 b1 g2 b2 ∧ waysI g1 b1 g2 b2 ≤ allI g1 b1 g2 b2 ∧ allI g1 b1 g2 b2 ≤ 1125899906842624 ∧ 0 < waysI g1 b1 g2 b2 := by
  obtain ⟨a1, a2, a3⟩ := okC_nat o1
  obtain ⟨c1, c2, c3⟩ := okC_nat o2
  unfold waysI allI
  have h1 : tl (b1.toNat + b2.toNat) (g1.toNat + g2.toNat) (g2.toNat + b2.toNat) (g2.toNat + 1) ≤ ch (b1.toNat + b2.toNat + (g1.toNat + g2.toNat)) (g2.toNat + b2.toNat) := tl_le_all _ _ _ _ (by omega)
  have h2 := ch_bound (n := b1.toNat + b2.toNat + (g1.toNat + g2.toNat)) (k := g2.toNat + b2.toNat) (by omega)
  have h3 : 0 < tl (b1.toNat + b2.toNat) (g1.toNat + g2.toNat) (g2.toNat + b2.toNat) (g2.toNat + 1) := by
    rw [tl]
    have x1 := ch_pos (b1.toNat + b2.toNat) (g2.toNat + b2.toNat - g2.toNat) (by omega)
    have x2 := ch_pos (g1.toNat + g2.toNat) g2.toNat (by omega)
    have := Nat.mul_pos x1 x2
    omega
  omega

/-- What a decision may be asked with. -/
def okP (need pm : Int) : Prop := 0 ≤ need ∧ need ≤ 25 ∧ 0 ≤ pm ∧ pm < 1000
instance (a b : Int) : Decidable (okP a b) := by unfold okP; exact inferInstance

def decideR (g1 b1 g2 b2 need pm : Int) : Int × (Int × Int) := if (twoR g1 b1 g2 b2).1 = 0 then (if okP need pm then (verdictI g1 b1 g2 b2 need pm, (0, 0)) else (0, (3, -3))) else (0, twoR g1 b1 g2 b2)

abbrev DecideC (F : Nat → Option RFunc) (f : Nat) : Prop := ∀ {fl H Q} {g1 b1 g2 b2 need pm : Int}, fl ≤ H.length → (∀ H', Keep H.length H H' → Q (.tuple [i64 (decideR g1 b1 g2 b2 need pm).1, fp (decideR g1 b1 g2 b2 need pm).2]) H') → Ret F fl f [cnt g1 b1, cnt g2 b2, i64 need, i64 pm] H Q

theorem mul_bd {a p : Int} (h0 : 0 ≤ a) (h1 : a ≤ 1125899906842624) (p0 : 0 ≤ p) (p1 : p ≤ 1000) : 0 ≤ a * p ∧ a * p ≤ 1125899906842624000 := by
  constructor
  · exact Int.mul_nonneg h0 p0
  · calc a * p ≤ 1125899906842624 * 1000 := Int.mul_le_mul h1 p1 p0 (by decide)
      _ = 1125899906842624000 := by decide

theorem decide_c {f n1 n2 : Nat} (hF : F f = some (rf_canary_Decide n1 n2)) (h1 : TwoC F n1) (h2 : TailIC F n2) : DecideC F f := fun {fl H Q g1 b1 g2 b2 need pm} hfl hq => by
  refine v_canary_Decide hF _ _ _ _ _ _ ?_
  intro H6 d6 H7 d7 H8 d8
  have k8 := (d6.keep.call d7.keep).call d8.keep
  refine h1 fun H11 k11 => ⟨_, _, rfl, fun H13 d13 => ?_⟩
  have k13 := (k8.call k11).call d13.keep
  unfold decideR at hq
  rw [twoR_iff]
  refine ⟨fun h => ?_, fun h => ?_⟩
  · obtain ⟨ht, hp⟩ := h
    rw [if_pos ht, if_neg (by unfold okP; omega)] at hq
    exact ⟨fun _ => hq H13 k13, fun h => absurd (fun h' => by cases h'.1) h⟩
  · refine ⟨fun ht => ?_, fun ht => ?_⟩
    · rw [if_neg ht] at hq; exact hq H13 k13
    · have ht := Decidable.not_not.1 ht
      have hp : okP need pm := by
        unfold okP
        have : ¬ (((need < 0 ∨ need > 25) ∨ pm < 0) ∨ pm ≥ 1000) := fun h' => h ⟨ht, h'⟩
        omega
      obtain ⟨o1, o2, e⟩ := twoR_ok ht
      rw [if_pos ht, if_pos hp] at hq
      obtain ⟨w0, w1, w2, _⟩ := ways_le o1 o2
      have x1 := mul_bd (p := 1000) w0 (by omega) (by decide) (by decide)
      have x2 := mul_bd (a := allI g1 b1 g2 b2) (p := pm) (by omega) w2 hp.2.2.1 (by have := hp.2.2.2; omega)
      refine h2 o1 o2 (k13.fl hfl) fun H16 k16 => ⟨_, _, rfl, ?_⟩
      rw [wrap64 (n := waysI g1 b1 g2 b2 * 1000) (by omega) (by omega), wrap64 (n := allI g1 b1 g2 b2 * pm) (by omega) (by omega), e]
      have hw : IntKind.wrap .i64 (g2 + b2) = g2 + b2 := by unfold okC at o2; rw [wrap64 (by omega) (by omega)]
      rw [hw]
      have hq' := hq H16 (k13.call k16)
      unfold verdictI at hq'
      refine ⟨fun hc => ?_, fun hc => ⟨fun hn => ?_, fun hn => ?_⟩⟩
      · rw [if_pos hc] at hq'; exact hq'
      · rw [if_neg hc, if_pos hn] at hq'; exact hq'
      · rw [if_neg hc, if_neg hn] at hq'; exact hq'

end Go.RM

/-
  Package canary and its reference, the rest.
-/
namespace Go.RM
set_option linter.unusedSimpArgs false
set_option linter.unusedVariables false
set_option maxRecDepth 4000

variable {F : Nat → Option RFunc}

/-- Two cells of a new block, written at once. -/
theorem put2 {fl : Nat} {H H' : Heap} {e b : Nat} {x y a c : Int} (h : NewB H e [i64 x, i64 y] b H') (hfl : fl ≤ H.length) : ∃ H2, putA fl H' b 0 2 (cnt a c) = some H2 ∧ Keep H.length H H2 := by
  obtain ⟨rfl, rfl⟩ := h
  refine ⟨(H ++ [({ cells := [i64 x, i64 y], e := e } : Blk)]).set H.length ({ cells := [i64 a, i64 c], e := e, live := true, clean := false, kid := none } : Blk), ?_, ?_⟩
  · unfold putA rput
    show (if ([i64 a, i64 c] : List AV).length = 2 then _ else none) = _
    rw [if_pos (by rfl)]
    simp only [Heap.blk, snoc_end, if_true]
    show (if fl ≤ H.length ∧ 0 + ([i64 a, i64 c] : List AV).length ≤ ([i64 x, i64 y] : List AV).length ∧ ([i64 a, i64 c] : List AV).all AV.scalar = true then _ else none) = _
    rw [if_pos ⟨hfl, by simp, by rfl⟩]
    rfl
  · refine ⟨Nat.le_refl _, by simp, fun b hb => ?_⟩
    rw [List.getElem?_set_ne (by omega), List.getElem?_append_left hb]

/-! ### The reference's -/

/-- The choices with fewer than j bad ones. -/
def lo (B G m : Nat) : Nat → Nat
  | 0 => 0
  | j + 1 => lo B G m j + ch B j * ch G (m - j)
end Go.RM

/-
  Functions of the program as the abstract machine runs them, and what must be shown of a run: printed by RmPrint.
-/
namespace Go.RM
set_option linter.unusedVariables false
set_option maxRecDepth 4000
def rf_slices_Index__int_int : RFunc := ⟨2, 8, [.var 2],
 ((.seq (.ops [⟨.move (.k (.int .i64 0)), none, (some 2), true⟩])
 ((.seq ((.seq (.ops [⟨.move (.var 0), none, none, true⟩, ⟨.len (.loc 0), none, (some 4), true⟩, ⟨.move (.k (.int .i64 0)), none, (some 3), true⟩])
 (.block 0 (.loop ((.seq (.ops [⟨.bin .lss .no (.var 3) (.var 4), none, (some 5), true⟩])
 ((.seq (.cond (.var 5) (.skip) (.exit 0))
 ((.seq (.block 1 ((.seq (.ops [⟨.move (.var 3), none, none, true⟩, ⟨.move (.loc 0), none, (some 6), true⟩])
 ((.seq (.ops [⟨.move (.var 1), none, none, true⟩, ⟨.move (.var 0), none, none, true⟩, ⟨.move (.var 6), none, none, true⟩, ⟨.indexAddr 1 (.loc 1) (.loc 2), none, none, true⟩, ⟨.load none (.loc 3), none, none, true⟩, ⟨.bin .eql .no (.loc 0) (.loc 4), none, (some 7), true⟩])
 (.cond (.var 7) ((.seq (.ops [⟨.move (.var 6), none, none, true⟩, ⟨.move (.loc 0), none, (some 2), true⟩])
 (.ret))) (.skip)))))))
 (.ops [⟨.bin .add .no (.var 3) (.k (.int .i64 1)), none, none, true⟩, ⟨.move (.loc 0), none, (some 3), true⟩])))))))))))
 ((.seq (.ops [⟨.move (.k (.int .i64 (-1))), none, (some 2), true⟩])
 (.ret)))))))⟩
theorem v_slices_Index__int_int {F : Nat → Option RFunc} {me : Nat} (hF : F me = some (rf_slices_Index__int_int )) {fl : Nat} {H : Heap} {Q : AV → Heap → Prop} (s0 : AV) (v1 : Int)
  (h : ∃ len2 : Nat, lenA s0 = some len2 ∧ ∃ (J3 : Nat → Int → Prop) (k4 : Nat), J3 k4 0 ∧ (∀ (m5 : Nat) (v7 : Int), J3 m5 v7 → ((v7 < (len2 : Int)) → ∃ (e11 : Int), getA H 1 none s0 v7 0 = some (.int .i64 e11) ∧ ((v1 = e11) → Q (.int .i64 v7) H) ∧ (¬(v1 = e11) → ∃ m13 : Nat, m13 < m5 ∧ J3 m13 (IntKind.wrap .i64 (v7 + 1)))) ∧ (¬(v7 < (len2 : Int)) → Q (.int .i64 (-1)) H))) : Ret F fl me [s0, (.int .i64 v1)] H Q := by
  refine ret_intro hF rfl ?_
  refine w_seq ?_
  refine w_run [0] ?_
  refine t_done [s0, (.int .i64 v1), (.int .i64 0), .undef, .undef, .undef, .undef, .undef] H (by kernel_rfl) ?_
  refine then_norm ?_
  refine w_seq ?_
  refine w_seq ?_
  refine w_run [0, 1, 0] ?_
  obtain ⟨len2, hl, h⟩ := h
  refine t_len true s0 len2 H (by kernel_rfl) hl ?_
  refine t_done [s0, (.int .i64 v1), (.int .i64 0), (.int .i64 0), (.int .i64 (len2 : Int)), .undef, .undef, .undef] H (by kernel_rfl) ?_
  refine then_norm ?_
  refine w_block ?_
  obtain ⟨J3, k4, h0, h⟩ := h
  refine w_loop (I := fun mI EI HI => ∃ (d6 : AV) (v7 : Int) (d8 : AV) (d9 : AV) (d10 : AV), EI = [s0, (.int .i64 v1), d6, (.int .i64 v7), (.int .i64 (len2 : Int)), d8, d9, d10] ∧ H = HI ∧ J3 mI v7) ?_ k4 ⟨_, _, _, _, _, rfl, rfl, h0⟩
  clear h0
  rintro m5 EI HI ⟨d6, v7, d8, d9, d10, rfl, rfl, hJ⟩
  replace h := h m5 v7  hJ
  clear hJ
  refine w_seq ?_
  refine w_run [0] ?_
  refine t_done [s0, (.int .i64 v1), d6, (.int .i64 v7), (.int .i64 (len2 : Int)), (.bool (decide (v7 < (len2 : Int)))), d9, d10] H (by kernel_rfl) ?_
  refine then_norm ?_
  refine w_seq ?_
  refine w_cond (t := (decide (v7 < (len2 : Int)))) rfl (fun hc => ?_) (fun hc => ?_)
  · replace h := h.1 (is_dec.t hc)
    refine w_skip ?_
    refine then_norm ?_
    refine w_seq ?_
    refine w_block ?_
    refine w_seq ?_
    refine w_run [0, 0] ?_
    refine t_done [s0, (.int .i64 v1), d6, (.int .i64 v7), (.int .i64 (len2 : Int)), (.bool (decide (v7 < (len2 : Int)))), (.int .i64 v7), d10] H (by kernel_rfl) ?_
    refine then_norm ?_
    refine w_seq ?_
    refine w_run [0, 0, 0, 1, 1, 0] ?_
    obtain ⟨e11, hg12, h⟩ := h
    refine t_idxG true 1 s0 .i64 v7 H (by kernel_rfl) hg12 ?_
    refine t_loadG true none 1 s0 v7 0 (.int .i64 e11) H (by kernel_rfl) hg12 ?_
    refine t_done [s0, (.int .i64 v1), d6, (.int .i64 v7), (.int .i64 (len2 : Int)), (.bool (decide (v7 < (len2 : Int)))), (.int .i64 v7), (.bool (v1 == e11))] H (by kernel_rfl) ?_
    refine then_norm ?_
    refine w_cond (t := (v1 == e11)) rfl (fun hc => ?_) (fun hc => ?_)
    · replace h := h.1 (is_eq.t hc)
      refine w_seq ?_
      refine w_run [0, 0] ?_
      refine t_done [s0, (.int .i64 v1), (.int .i64 v7), (.int .i64 v7), (.int .i64 (len2 : Int)), (.bool (decide (v7 < (len2 : Int)))), (.int .i64 v7), (.bool (v1 == e11))] H (by kernel_rfl) ?_
      refine then_norm ?_
      refine w_ret ?_
      refine block_ret ?_
      refine then_ret ?_
      refine loop_ret ?_
      refine block_ret ?_
      refine then_ret ?_
      exact body_ret (vs := [(.int .i64 v7)]) _ (by kernel_rfl) rfl h
    · replace h := h.2 (is_eq.f hc)
      refine w_skip ?_
      refine block_norm ?_
      refine then_norm ?_
      refine w_run [0, 0] ?_
      refine t_done [s0, (.int .i64 v1), d6, (.int .i64 (IntKind.wrap .i64 (v7 + 1))), (.int .i64 (len2 : Int)), (.bool (decide (v7 < (len2 : Int)))), (.int .i64 v7), (.bool (v1 == e11))] H (by kernel_rfl) ?_
      obtain ⟨m', hm, h⟩ := h
      refine loop_norm ⟨m', hm, _, _, _, _, _, rfl, rfl, h⟩
  · replace h := h.2 (is_dec.f hc)
    refine w_exit ?_
    refine then_exit ?_
    refine loop_exit ?_
    refine block_exit ?_
    refine then_norm ?_
    refine w_seq ?_
    refine w_run [0] ?_
    refine t_done [s0, (.int .i64 v1), (.int .i64 (-1)), (.int .i64 v7), (.int .i64 (len2 : Int)), (.bool (decide (v7 < (len2 : Int)))), d9, d10] H (by kernel_rfl) ?_
    refine then_norm ?_
    refine w_ret ?_
    exact body_ret (vs := [(.int .i64 (-1))]) _ (by kernel_rfl) rfl h

end Go.RM

/-
  Functions of package slices: what they return.
-/
namespace Go.RM
set_option linter.unusedSimpArgs false
set_option linter.unusedVariables false

/-- The first place of an element, as Go tells it. -/
def fidx {α : Type} (p : α → Bool) (l : List α) : Int := match l.findIdx? p with | some i => (i : Int) | none => -1

theorem fidx_hit {α : Type} {p : α → Bool} {l : List α} {i : Nat} (h : i < l.length) (hp : p l[i] = true) (hn : ∀ x ∈ l.take i, p x = false) : fidx p l = i := by
  unfold fidx
  rw [List.findIdx?_eq_some_iff_getElem.2 ⟨h, hp, fun j hj => by
    have := hn l[j] (by rw [List.mem_take_iff_getElem]; exact ⟨j, by omega, rfl⟩)
    simp [this]⟩]
theorem fidx_none {α : Type} {p : α → Bool} {l : List α} (hn : ∀ x ∈ l, p x = false) : fidx p l = -1 := by
  unfold fidx
  rw [List.findIdx?_eq_none_iff.2 hn]

theorem take_step {α : Type} {p : α → Bool} {l : List α} {i : Nat} (h : i < l.length) (hp : p l[i] = false) (hn : ∀ x ∈ l.take i, p x = false) : ∀ x ∈ l.take (i + 1), p x = false := by
  intro x hx
  rw [List.take_succ_eq_append_getElem h, List.mem_append, List.mem_singleton] at hx
  rcases hx with hx | rfl
  · exact hn x hx
  · exact hp

variable {F : Nat → Option RFunc}

abbrev IndexIC (F : Nat → Option RFunc) (f : Nat) : Prop := ∀ {fl H Q v l n}, Ints H v l → Q (i64 (fidx (fun x => x == n) l)) H → Ret F fl f [v, i64 n] H Q
theorem indexI_c {f : Nat} (hF : F f = some rf_slices_Index__int_int) : IndexIC F f := fun {fl H Q v l n} hv hq => by
  refine v_slices_Index__int_int hF _ _ ?_
  refine ⟨_, hv.len, fun m v => ∃ i : Nat, v = i ∧ i + m = l.length ∧ ∀ x ∈ l.take i, (x == n) = false, l.length, ⟨0, rfl, by omega, by simp⟩, ?_⟩
  rintro m _ ⟨i, rfl, hm, hi⟩
  refine ⟨fun hlt => ?_, fun hge => ?_⟩
  · have hil : i < l.length := by omega
    refine ⟨_, hv.int hil, fun he => ?_, fun hne => ⟨m - 1, by omega, i + 1, wsucc hil hv.small, by omega, take_step (p := fun x => x == n) hil (by simpa using fun h => hne h.symm) hi⟩⟩
    rw [fidx_hit hil (by simp [he]) hi] at hq; exact hq
  · rw [List.take_of_length_le (by omega)] at hi
    rw [fidx_none hi] at hq; exact hq

end Go.RM

/-
  Package rollout: rings that are written in place.
-/
namespace Go.RM
set_option linter.unusedSimpArgs false
set_option linter.unusedVariables false
set_option maxRecDepth 4000

namespace Rol
/-- A ring. -/
structure RS where
  conf : List Int
  act : Int
  good : Int
  bad : Int
structure PP where
  b1 : Int
  b2 : Int
  need : Int
  pm : Int
def lastI (l : List Int) : Int := match l.getLast? with | some x => x | none => 0
def rm (v : Int) (l : List Int) : List Int := l.eraseIdx (l.findIdx (fun x => x == v))
end Rol
open Rol

variable {F : Nat → Option RFunc}

abbrev ints (l : List Int) : List AV := l.map fun x => AV.int .i64 x
theorem ints_scal (l : List Int) : (ints l).all AV.scalar = true := by
  rw [List.all_eq_true]; intro x hx
  obtain ⟨y, _, rfl⟩ := List.mem_map.1 hx; rfl
theorem Own.ints {n : Nat} {H : Heap} {v : AV} {l : List Int} (h : Own n H 1 v l.length (Go.RM.ints l)) : Ints H v l := by
  refine ⟨l.map fun x => [AV.int .i64 x], All2.ints l, ?_⟩
  rw [← Row.flat]; exact h.sl

abbrev DeleteC (F : Nat → Option RFunc) (f : Nat) : Prop := ∀ {fl H Q n v} {l : List Int} {i : Nat}, Own n H 1 v l.length (ints l) → i < l.length → fl ≤ n → l.length ≤ 2 ^ 30 →
  (∀ w H', Own n H' 1 w (l.eraseIdx i).length (ints (l.eraseIdx i)) → H'.length = H.length → (∀ b, ¬ At v b → H'[b]? = H[b]?) → (∀ b, At w b → At v b) → Q w H') → Ret F fl f [v, i64 (i : Int), i64 ((i + 1 : Nat) : Int)] H Q
theorem delete_c {f : Nat} (hF : F f = some rf_slices_Delete__int_int) : DeleteC F f := fun {fl H Q n v l i} hv hi hfl hl hq => by
  refine v_slices_Delete__int_int hF _ _ _ ?_
  obtain ⟨a1, ⟨s, a2⟩, s6, s7, a3, a4, w, H9, s11, H12, a5, a6, a7, a8, a9, a10, a11, a12⟩ := hv.del hi hfl hl (ints_scal l)
  refine ⟨_, a1, s, a2, fun h => by omega, fun _ => ⟨_, a1, s6, a3, s7, a4, w, H9, a5, _, a6, s11, a7, H12, a8, hq w H12 ?_ a10 a11 a12⟩⟩
  rw [List.eraseIdx_eq_take_drop_succ]
  unfold Go.RM.ints at a9 ⊢
  rw [List.map_append, List.map_take, List.map_drop, List.length_append, List.length_take, List.length_drop, show min i l.length + (l.length - (i + 1)) = l.length - 1 by omega]
  exact a9

/-! ### The rings on the heap -/

abbrev ringC (x : AV × RS) : List AV := [x.1, i64 x.2.act, i64 x.2.good, i64 x.2.bad]
def planC (p : PP) (b n : Nat) : List AV := [i64 p.b1, i64 p.b2, i64 p.need, i64 p.pm, .slice b 0 n (some n)]

structure RingsH (n : Nat) (H : Heap) (pb b : Nat) (l : List (AV × RS)) : Prop where
  row : MRow H b 4 (l.map ringC)
  lo : n ≤ b
  own : ∀ x ∈ l, Own n H 1 x.1 x.2.conf.length (ints x.2.conf)
  sep : ∀ i j (hi : i < l.length) (hj : j < l.length), i ≠ j → ∀ c, At l[i].1 c → ¬ At l[j].1 c
  offb : ∀ x ∈ l, ¬ At x.1 b ∧ ¬ At x.1 pb
  ne : pb ≠ b
  small : l.length ≤ 5

structure St (n : Nat) (H : Heap) (pb b : Nat) (p : PP) (l : List (AV × RS)) : Prop extends RingsH n H pb b l where
  box : Box H pb (planC p b l.length)

variable {n : Nat} {H H' : Heap} {pb b : Nat} {p : PP} {l : List (AV × RS)}

theorem St.keep (h : St n H pb b p l) (k : Keep H.length H H') : St n H' pb b p l where
  row := h.row.keep k
  lo := h.lo
  own := fun x hx => (h.own x hx).keep k
  sep := h.sep
  offb := h.offb
  ne := h.ne
  small := h.small
  box := h.box.frame (k.get pb h.box.lt)

theorem St.bn (h : St n H pb b p l) : n ≤ H.length := Nat.le_trans h.lo (Nat.le_of_lt h.row.lt)
theorem St.rings (h : St n H pb b p l) : rload H none pb (0 + 4) = some (.slice b 0 l.length (some l.length)) := h.box.load rfl
theorem St.ptr (h : St n H pb b p l) {i : Nat} (hi : i < l.length) : ptrA 4 (.slice b 0 l.length (some l.length)) (i : Int) = some (b, i * 4) := MRow.ptr hi
theorem St.cell (h : St n H pb b p l) {i : Nat} (hi : i < l.length) {o : Nat} {x : AV} (hx : (ringC l[i])[o]? = some x) : rload H none b (i * 4 + o) = some x := h.row.load (i := i) (c := ringC l[i]) (by simp [hi]) hx
theorem St.conf (h : St n H pb b p l) {i : Nat} (hi : i < l.length) : rload H none b (i * 4) = some l[i].1 := h.cell hi (o := 0) rfl
theorem St.act (h : St n H pb b p l) {i : Nat} (hi : i < l.length) : rload H none b (i * 4 + 1) = some (i64 l[i].2.act) := h.cell hi rfl

theorem RingsH.bn (h : RingsH n H pb b l) : n ≤ H.length := Nat.le_trans h.lo (Nat.le_of_lt h.row.lt)
/-- A ring's numbers are written. -/
theorem RingsH.num (h : RingsH n H pb b l) {fl : Nat} (hfl : fl ≤ n) {i : Nat} (hi : i < l.length) {o k : Nat} {v : AV} (hk : v.cells.length = k) (hs : v.cells.all AV.scalar = true) (hok : o + k ≤ 4) {r : RS} (hr : splice (ringC l[i]) o v.cells = ringC (l[i].1, r)) (hc : r.conf = l[i].2.conf) :
    ∃ H', putA fl H b (i * 4 + o) k v = some H' ∧ Keep n H H' ∧ RingsH n H' pb b (l.set i (l[i].1, r)) ∧ H'[pb]? = H[pb]? := by
  obtain ⟨H', a1, a2, a3⟩ := h.row.put (fl := fl) (i := i) (c := ringC l[i]) (by simp [hi]) hk hok hs (Nat.le_trans hfl h.lo)
  refine ⟨H', a1, a3.keep h.lo h.bn, { row := ?_, lo := h.lo, own := ?_, sep := ?_, offb := ?_, ne := h.ne, small := by simpa using h.small }, a3.get pb h.ne⟩
  · rw [hr] at a2
    rw [List.map_set]; exact a2
  · intro x hx
    rcases List.mem_or_eq_of_mem_set hx with hx | rfl
    · exact (h.own x hx).frame fun c hc => a3.get c fun e => (h.offb x hx).1 (e ▸ hc)
    · have hm := List.getElem_mem hi
      simp only [hc]
      exact (h.own _ hm).frame fun c hc => a3.get c fun e => (h.offb _ hm).1 (e ▸ hc)
  · intro i' j' hi' hj' hne c
    have e1 : ∀ k (hk : k < (l.set i (l[i].1, r)).length), (l.set i (l[i].1, r))[k].1 = (l[k]'(by simpa using hk)).1 := fun k hk => by
      rw [List.getElem_set]
      split
      · rename_i e; subst e; rfl
      · rfl
    rw [e1 i' hi', e1 j' hj']
    exact h.sep i' j' _ _ hne c
  · intro x hx
    rcases List.mem_or_eq_of_mem_set hx with hx | rfl
    · exact h.offb x hx
    · have := h.offb _ (List.getElem_mem hi)
      exact this

/-- A ring's versions are written, after its slice was changed. -/
theorem RingsH.setConf (h : RingsH n H pb b l) (hpb : pb < H.length) {fl : Nat} (hfl : fl ≤ n) {i : Nat} (hi : i < l.length) {H1 : Heap} {w : AV} {cf : List Int} (hlen : H.length ≤ H1.length) (hf : ∀ c, c < H.length → ¬ At l[i].1 c → H1[c]? = H[c]?) (hw : Own n H1 1 w cf.length (ints cf)) (hat : ∀ c, At w c → At l[i].1 c ∨ H.length ≤ c) :
    ∃ H', putA fl H1 b (i * 4) 1 w = some H' ∧ Keep n H H' ∧ RingsH n H' pb b (l.set i (w, { l[i].2 with conf := cf })) ∧ H'[pb]? = H[pb]? := by
  have hm := List.getElem_mem hi
  have hb1 : H1[b]? = H[b]? := hf b h.row.lt (h.offb _ hm).1
  obtain ⟨H', a1, a2, a3⟩ := (h.row.frame hb1).put (fl := fl) (i := i) (c := ringC l[i]) (o := 0) (n := 1) (v := w) (by simp [hi]) (by rw [hw.scal.1]; rfl) (by decide) (by rw [hw.scal.1, List.all_cons, hw.scal.2]; rfl) (Nat.le_trans hfl h.lo)
  have hkeep : Keep n H H' := ⟨h.bn, by rw [a3.len]; exact hlen, fun c hc => by
    rw [a3.get c (by have := h.lo; omega), hf c (Nat.lt_of_lt_of_le hc h.bn) fun ha => by have := ((h.own _ hm).at_lt ha).1; omega]⟩
  have hwb : ¬ At w b := fun ha => by
    rcases hat b ha with h1 | h1
    · exact (h.offb _ hm).1 h1
    · have := h.row.lt; omega
  have hwp : ¬ At w pb := fun ha => by
    rcases hat pb ha with h1 | h1
    · exact (h.offb _ hm).2 h1
    · omega
  refine ⟨H', a1, hkeep, { row := ?_, lo := h.lo, own := ?_, sep := ?_, offb := ?_, ne := h.ne, small := by simpa using h.small }, by rw [a3.get pb h.ne, hf pb hpb (h.offb _ hm).2]⟩
  · rw [hw.scal.1] at a2
    rw [List.map_set]; exact a2
  · intro x hx
    obtain ⟨j, hj, rfl⟩ := List.getElem_of_mem hx
    rw [List.getElem_set]
    rw [List.length_set] at hj
    split
    · exact hw.frame fun c hc => a3.get c fun e => hwb (e ▸ hc)
    · rename_i hne
      have hx' := List.getElem_mem hj
      exact (h.own _ hx').frame fun c hc => by
        rw [a3.get c fun e => (h.offb _ hx').1 (e ▸ hc), hf c ((h.own _ hx').at_lt hc).2 fun ha => h.sep i j hi hj hne c ha hc]
  · intro i' j' hi' hj' hne c
    rw [List.length_set] at hi' hj'
    rw [List.getElem_set, List.getElem_set]
    split
    · rename_i e; subst e
      rw [if_neg hne]
      intro ha hb
      rcases hat c ha with h1 | h1
      · exact h.sep i j' hi' hj' hne c h1 hb
      · have := ((h.own _ (List.getElem_mem hj')).at_lt hb).2; omega
    · split
      · rename_i e; subst e
        intro hb ha
        rcases hat c ha with h1 | h1
        · exact h.sep i i' hi hi' (Ne.symm hne) c h1 hb
        · have := ((h.own _ (List.getElem_mem hi')).at_lt hb).2; omega
      · exact h.sep i' j' hi' hj' hne c
  · intro x hx
    rcases List.mem_or_eq_of_mem_set hx with hx | rfl
    · exact h.offb x hx
    · exact ⟨hwb, hwp⟩

/-- A ring's numbers are written. -/
theorem St.num (h : St n H pb b p l) {fl : Nat} (hfl : fl ≤ n) {i : Nat} (hi : i < l.length) {o k : Nat} {v : AV} (hk : v.cells.length = k) (hs : v.cells.all AV.scalar = true) (hok : o + k ≤ 4) {r : RS} (hr : splice (ringC l[i]) o v.cells = ringC (l[i].1, r)) (hc : r.conf = l[i].2.conf) :
    ∃ H', putA fl H b (i * 4 + o) k v = some H' ∧ Keep n H H' ∧ St n H' pb b p (l.set i (l[i].1, r)) := by
  obtain ⟨H', a1, a2, a3, a4⟩ := h.toRingsH.num hfl hi hk hs hok hr hc
  exact ⟨H', a1, a2, { toRingsH := a3, box := by rw [List.length_set]; exact h.box.frame a4 }⟩
/-- A ring's versions are written, after its slice was changed. -/
theorem St.setConf (h : St n H pb b p l) {fl : Nat} (hfl : fl ≤ n) {i : Nat} (hi : i < l.length) {H1 : Heap} {w : AV} {cf : List Int} (hlen : H.length ≤ H1.length) (hf : ∀ c, c < H.length → ¬ At l[i].1 c → H1[c]? = H[c]?) (hw : Own n H1 1 w cf.length (ints cf)) (hat : ∀ c, At w c → At l[i].1 c ∨ H.length ≤ c) :
    ∃ H', putA fl H1 b (i * 4) 1 w = some H' ∧ Keep n H H' ∧ St n H' pb b p (l.set i (w, { l[i].2 with conf := cf })) := by
  obtain ⟨H', a1, a2, a3, a4⟩ := h.toRingsH.setConf h.box.lt hfl hi hlen hf hw hat
  exact ⟨H', a1, a2, { toRingsH := a3, box := by rw [List.length_set]; exact h.box.frame a4 }⟩

/-! ### abort -/

namespace Rol
def hitA (v : Int) (r : RS) : Bool := decide (v ≠ 0 ∧ r.act = v)
def abort1 (v : Int) (r : RS) : RS := { conf := rm v r.conf, act := if hitA v r then 0 else r.act, good := if hitA v r then 0 else r.good, bad := if hitA v r then 0 else r.bad }
def hit (v : Int) (r : RS) : Bool := hitA v r || r.conf.any (fun x => x == v)
end Rol

theorem rm_none {v : Int} {l : List Int} (h : l.any (fun x => x == v) = false) : rm v l = l := by
  unfold rm
  have : l.findIdx (fun x => x == v) = l.length := by
    rw [List.findIdx_eq_length]; intro x hx
    rw [List.any_eq_false] at h
    simpa using h x hx
  rw [this, List.eraseIdx_of_length_le (Nat.le_refl _)]

theorem fidx_cases (p : Int → Bool) (l : List Int) : (∃ h : l.findIdx p < l.length, fidx p l = (l.findIdx p : Nat) ∧ l.any p = true) ∨ (fidx p l = -1 ∧ l.any p = false) := by
  unfold fidx
  cases h : l.findIdx? p with
  | none =>
    right
    refine ⟨rfl, ?_⟩
    rw [List.findIdx?_eq_none_iff] at h
    rw [List.any_eq_false]; intro x hx; simp [h x hx]
  | some i =>
    left
    obtain ⟨h1, h2⟩ := List.findIdx?_eq_some_iff_findIdx_eq.1 h
    refine ⟨by omega, by rw [h2], ?_⟩
    rw [List.any_eq_true]
    have : l.findIdx p < l.length := by omega
    exact ⟨_, List.getElem_mem this, List.findIdx_getElem (w := this)⟩

/-- What abort does with a ring's versions. -/
theorem abort_rest {fl n1 n2 i : Nat} {v : Int} {P1 P2 : Heap → Prop} (hI : IndexIC F n1) (hD : DeleteC F n2) (h : St n H pb b p l) (hfl : fl ≤ n) (hi : i < l.length) (hc : l[i].2.conf.length ≤ 2 ^ 30)
    (q1 : l[i].2.conf.any (fun x => x == v) = true → ∀ w H', Keep n H H' → St n H' pb b p (l.set i (w, { l[i].2 with conf := rm v l[i].2.conf })) → P1 H') (q2 : l[i].2.conf.any (fun x => x == v) = false → P2 H) :
    ∃ (e23 : AV), rload H none b (i * 4) = some e23 ∧ Ret F fl n1 [e23, i64 v] H (fun v26 H25 => ∃ (r24 : Int), v26 = i64 r24 ∧ ((r24 ≥ 0) → ∃ (e27 : AV), rload H25 none b (i * 4) = some e27 ∧ Ret F fl n2 [e27, i64 r24, i64 (IntKind.wrap .i64 (r24 + 1))] H25 (fun r28 H29 => ∃ H31 : Heap, putA fl H29 b (i * 4) 1 r28 = some H31 ∧ P1 H31)) ∧ (¬(r24 ≥ 0) → P2 H25)) := by
  have hm := List.getElem_mem hi
  have ho := h.own _ hm
  refine ⟨_, h.conf hi, hI ho.ints ⟨_, rfl, fun hp => ?_, fun hn => ?_⟩⟩
  · rcases fidx_cases (fun x => x == v) l[i].2.conf with ⟨h1, h2, h3⟩ | ⟨h2, h3⟩
    · rw [h2]
      refine ⟨_, h.conf hi, ?_⟩
      rw [wsucc h1 ho.sl.small]
      refine hD ho h1 hfl hc fun w H1 a1 a2 a3 a4 => ?_
      obtain ⟨H2, b1, b2, b3⟩ := h.setConf (cf := rm v l[i].2.conf) hfl hi (Nat.le_of_eq a2.symm) (fun c _ hc => a3 c hc) a1 fun c hc => .inl (a4 c hc)
      exact ⟨H2, b1, q1 h3 w H2 b2 b3⟩
    · rw [h2] at hp; omega
  · rcases fidx_cases (fun x => x == v) l[i].2.conf with ⟨h1, h2, h3⟩ | ⟨h2, h3⟩
    · rw [h2] at hn; omega
    · exact q2 h3

/-- The rings of a state, without their slices. -/
abbrev rs (l : List (AV × RS)) : List RS := l.map (·.2)

abbrev AbortC (F : Nat → Option RFunc) (f : Nat) : Prop := ∀ {fl H Q n pb b p l} {v : Int}, St n H pb b p l → fl ≤ n → (∀ x ∈ l, x.2.conf.length ≤ 2 ^ 29) → (∀ l' H', Keep n H H' → St n H' pb b p l' → rs l' = (rs l).map (abort1 v) → Q (.bool ((rs l).any (hit v))) H') → Ret F fl f [.ptr pb 0, i64 v] H Q

theorem abort_c {f n1 n2 : Nat} (hF : F f = some (rf_rollout_plan_abort n1 n2)) (h1 : IndexIC F n1) (h2 : DeleteC F n2) : AbortC F f := fun {fl H Q n pb b p l v} hst hfl hcl hq => by
  refine v_rollout_plan_abort hF _ _ _ ?_
  refine ⟨_, hst.rings, _, rfl, ?_⟩
  refine ⟨fun m i found H' => ∃ (j : Nat) (l' : List (AV × RS)), i = j ∧ j + m = l.length ∧ Keep n H H' ∧ St n H' pb b p l' ∧ rs l' = ((rs l).take j).map (abort1 v) ++ (rs l).drop j ∧ found = ((rs l).take j).any (hit v), l.length, ⟨0, l, rfl, by omega, Keep.rfl' hst.bn, hst, by simp, by simp⟩, ?_⟩
  rintro m _ _ H' ⟨j, l', rfl, hm, hk, hst', hrs, rfl⟩
  have hlen : l'.length = l.length := by
    have := congrArg List.length hrs
    simpa using by simp at this; omega
  refine ⟨fun hlt => ?_, fun hge => ?_⟩
  · have hil : j < l.length := by omega
    have hil' : j < l'.length := by omega
    have hrl : j < (rs l).length := by simpa using hil
    have hsm : l.length ≤ 9223372036854775807 := by have := hst.small; omega
    -- ring j is as it was
    have hj : l'[j].2 = l[j].2 := by
      have h3 : (rs l')[j]'(by simpa using hil') = (rs l)[j] := by
        simp only [hrs]
        rw [List.getElem_append_right (by simp; omega)]
        simp only [List.length_map, List.length_take, List.getElem_drop]
        congr 1; omega
      simpa using h3
    have hcj : l[j].2.conf.length ≤ 2 ^ 29 := hcl _ (List.getElem_mem hil)
    have step : ∀ (l'' : List (AV × RS)) H'' (fd : Bool), Keep n H' H'' → St n H'' pb b p l'' → (∃ w, l'' = l'.set j (w, abort1 v l[j].2)) → fd = (((rs l).take j).any (hit v) || hit v l[j].2) →
        ∃ m32 : Nat, m32 < m ∧ ∃ (j' : Nat) (l' : List (AV × RS)), IntKind.wrap .i64 ((j : Int) + 1) = j' ∧ j' + m32 = l.length ∧ Keep n H H'' ∧ St n H'' pb b p l' ∧ rs l' = ((rs l).take j').map (abort1 v) ++ (rs l).drop j' ∧ fd = ((rs l).take j').any (hit v) := fun l'' H'' fd k1 s1 ⟨w, hw⟩ hfd => by
      refine ⟨m - 1, by omega, j + 1, l'', wsucc hil hsm, by omega, hk.tr k1, s1, ?_, ?_⟩
      · rw [hw]
        unfold rs at hrs ⊢
        rw [List.map_set, hrs, List.take_succ_eq_append_getElem hrl, List.map_append, List.set_append_right _ _ (by simp; omega)]
        rw [List.append_assoc]
        congr 1
        rw [List.drop_eq_getElem_cons hrl]
        simp only [List.length_map, List.length_take]
        rw [show j - min j l.length = 0 by omega]
        simp
      · rw [hfd, List.take_succ_eq_append_getElem hrl, List.any_append]; simp
    refine ⟨_, hst'.rings, b, j * 4, hst'.ptr hil', fun hv0 => ?_, fun hv0 => ?_⟩
    · refine ⟨_, hst'.act hil', fun hact => ?_, fun hact => ?_⟩
      · have hA : hitA v l[j].2 = true := by
          unfold hitA; rw [← hj]; exact decide_eq_true ⟨hv0, hact⟩
        obtain ⟨H21, a1, a2, a3⟩ := hst'.num hfl hil' (o := 1) (k := 1) (v := i64 0) rfl rfl (by decide) (r := { l'[j].2 with act := 0 }) rfl rfl
        have hil2 : j < (l'.set j (l'[j].1, { l'[j].2 with act := 0 })).length := by simpa using hil'
        have e2 : (l'.set j (l'[j].1, { l'[j].2 with act := 0 }))[j] = (l'[j].1, { l'[j].2 with act := 0 }) := by simp
        obtain ⟨H22, b1, b2, b3⟩ := a3.num hfl hil2 (o := 2) (k := 2) (v := .agg [i64 0, i64 0]) rfl rfl (by decide) (r := { conf := l'[j].2.conf, act := 0, good := 0, bad := 0 }) (by rw [e2]; rfl) (by rw [e2])
        rw [e2, List.set_set] at b3
        have hil3 : j < (l'.set j (l'[j].1, { conf := l'[j].2.conf, act := 0, good := 0, bad := 0 })).length := by simpa using hil'
        have e3 : (l'.set j (l'[j].1, { conf := l'[j].2.conf, act := 0, good := 0, bad := 0 }))[j] = (l'[j].1, { conf := l'[j].2.conf, act := 0, good := 0, bad := 0 }) := by simp
        refine ⟨H21, a1, H22, b1, ?_⟩
        refine abort_rest h1 h2 b3 hfl hil3 (by rw [e3, hj]; simp only; omega) (fun hany w H31 k31 s31 => ?_) (fun hany => ?_)
        · rw [e3, List.set_set] at s31
          refine step _ _ _ ((a2.tr b2).tr k31) s31 ⟨w, ?_⟩ ?_
          · unfold abort1; rw [hA, hj]; rfl
          · unfold hit; rw [hA]; simp
        · rw [e3, hj] at hany
          refine step _ _ _ (a2.tr b2) b3 ⟨l'[j].1, ?_⟩ ?_
          · unfold abort1; rw [hA, hj, rm_none hany]; rfl
          · unfold hit; rw [hA]; simp
      · have hA : hitA v l[j].2 = false := by
          unfold hitA; rw [← hj]; exact decide_eq_false fun h => hact h.2
        refine abort_rest h1 h2 hst' hfl hil' (by rw [hj]; omega) (fun hany w H31 k31 s31 => ?_) (fun hany => ?_)
        · rw [hj] at hany s31
          refine step _ _ _ k31 s31 ⟨w, ?_⟩ ?_
          · unfold abort1; rw [hA]; rfl
          · unfold hit; rw [hany]; simp
        · rw [hj] at hany
          refine step l' _ _ (Keep.rfl' hst'.bn) hst' ⟨l'[j].1, ?_⟩ ?_
          · have : abort1 v l[j].2 = l'[j].2 := by unfold abort1; rw [hA, rm_none hany, hj]; rfl
            rw [this]
            show l' = l'.set j l'[j]
            simp
          · unfold hit; rw [hA, hany]; simp
    · have hA : hitA v l[j].2 = false := by
        unfold hitA; exact decide_eq_false fun h => hv0 h.1
      refine abort_rest h1 h2 hst' hfl hil' (by rw [hj]; omega) (fun hany w H31 k31 s31 => ?_) (fun hany => ?_)
      · rw [hj] at hany s31
        refine step _ _ _ k31 s31 ⟨w, ?_⟩ ?_
        · unfold abort1; rw [hA]; rfl
        · unfold hit; rw [hany]; simp
      · rw [hj] at hany
        refine step l' _ _ (Keep.rfl' hst'.bn) hst' ⟨l'[j].1, ?_⟩ ?_
        · have : abort1 v l[j].2 = l'[j].2 := by unfold abort1; rw [hA, rm_none hany, hj]; rfl
          rw [this]
          show l' = l'.set j l'[j]
          simp
        · unfold hit; rw [hA, hany]; simp
  · have hj : j = l.length := by omega
    subst hj
    have h3 : (rs l).take l.length = rs l := List.take_of_length_le (by simp)
    have h4 : (rs l).drop l.length = [] := List.drop_eq_nil_of_le (by simp)
    rw [h3, h4, List.append_nil] at hrs
    rw [h3]
    exact hq l' H' hk hst' hrs

end Go.RM

/-
  Package rollout: start, report, advance and the steps.
-/
namespace Go.RM
set_option linter.unusedSimpArgs false
set_option linter.unusedVariables false
set_option maxRecDepth 4000

namespace Rol
def rg (l : List RS) (i : Nat) : RS := l.getD i ⟨[], 0, 0, 0⟩
structure Ev where
  kind : Int
  ver : Int
  ring : Int
  g : Int
  b : Int
def startR (v : Int) (l : List RS) : Int × List RS :=
  if v < 1 ∨ v > 1000000000 then (3, l) else if (rg l 0).act ≠ 0 then (15, l) else if v ≤ lastI (rg l 0).conf then (16, l) else (0, l.set 0 { rg l 0 with act := v })
def reportR (p : PP) (l : List RS) (i : Nat) (c1 c2 : Int) : Int × List RS :=
  if ¬ okC c1 c2 then (3, l) else if (rg l i).act = 0 then (11, l) else if ¬ okC ((rg l i).good + c1) ((rg l i).bad + c2) then (10, l) else
    if verdictI p.b1 p.b2 ((rg l i).good + c1) ((rg l i).bad + c2) p.need p.pm = 3 then (0, (l.set i { rg l i with good := (rg l i).good + c1, bad := (rg l i).bad + c2 }).map (abort1 (rg l i).act))
    else (0, l.set i { rg l i with good := (rg l i).good + c1, bad := (rg l i).bad + c2 })
def advanceR (p : PP) (l : List RS) (i : Nat) : Int × List RS :=
  if (rg l i).act = 0 then (11, l) else if verdictI p.b1 p.b2 (rg l i).good (rg l i).bad p.need p.pm ≠ 2 then (11, l) else
    if i + 1 < l.length ∧ (rg l (i + 1)).act ≠ 0 then (15, l) else
    (0, (if i + 1 < l.length then l.set (i + 1) { rg l (i + 1) with act := (rg l i).act } else l).set i ⟨(rg l i).conf ++ [(rg l i).act], 0, 0, 0⟩)
def unusedB (e : Ev) : Bool := (((((e.kind) == 1) || ((e.kind) == 4)) && ((e.ring) != 0)) || ((!(((e.kind) == 1) || ((e.kind) == 4))) && ((e.ver) != 0))) || (((e.kind) != 2) && (!(((e.g) == 0) && (((e.b) == 0) && true))))
def stepR (p : PP) (l : List RS) (e : Ev) : Int × List RS :=
  if e.kind < 1 ∨ e.kind > 4 then (4, l) else if unusedB e = true then (5, l) else if e.ring < 0 ∨ e.ring ≥ l.length then (3, l) else
    if e.kind = 1 then startR e.ver l else if e.kind = 2 then reportR p l e.ring.toNat e.g e.b else if e.kind = 3 then advanceR p l e.ring.toNat else
      if l.any (hit e.ver) then (0, l.map (abort1 e.ver)) else (6, l)
structure OkP (p : PP) : Prop where
  base : okC p.b1 p.b2
  par : okP p.need p.pm
end Rol
open Rol

variable {F : Nat → Option RFunc}
variable {n : Nat} {H H' : Heap} {pb b : Nat} {p : PP} {l : List (AV × RS)}

theorem get_eq {l : List (AV × RS)} {i : Nat} (hi : i < l.length) : rg (rs l) i = l[i].2 := by
  unfold rg rs; simp [List.getD, hi]
theorem rs_set {l : List (AV × RS)} {i : Nat} {w : AV} {r : RS} : rs (l.set i (w, r)) = (rs l).set i r := by unfold rs; rw [List.map_set]

abbrev LastC (F : Nat → Option RFunc) (f : Nat) : Prop := ∀ {fl H Q v} {cf : List Int} {a g b : Int}, Ints H v cf → (∀ H', Keep H.length H H' → Q (i64 (lastI cf)) H') → Ret F fl f [.agg [v, i64 a, i64 g, i64 b]] H Q
theorem last_c {f : Nat} (hF : F f = some rf_rollout_last) : LastC F f := fun {fl H Q v cf a g b} hv hq => by
  refine v_rollout_last hF _ _ _ _ ?_
  intro H4 d4
  have hs := hv.small
  unfold lastI at hq
  refine ⟨_, hv.len, fun hz => ?_, fun hz => ?_⟩
  · have : cf = [] := List.eq_nil_of_length_eq_zero (by omega)
    subst this
    exact hq H4 d4.keep
  · have hl : cf.length - 1 < cf.length := by omega
    refine ⟨_, hv.len, ?_⟩
    rw [wpred (by omega) hs]
    refine ⟨_, (hv.keep d4.keep).int hl, ?_⟩
    rw [List.getLast?_eq_getElem?, List.getElem?_eq_getElem hl] at hq
    exact hq H4 d4.keep

/-- What a step hands back. -/
abbrev Done (n : Nat) (H : Heap) (pb b : Nat) (p : PP) (r : Int × List RS) (Q : AV → Heap → Prop) : Prop := ∀ l' H', Keep n H H' → (r.1 = 0 → St n H' pb b p l' ∧ rs l' = r.2) → Q (i64 r.1) H'

abbrev StartC (F : Nat → Option RFunc) (f : Nat) : Prop := ∀ {fl H Q n pb b p l} {v : Int}, St n H pb b p l → 0 < l.length → fl ≤ n → Done n H pb b p (startR v (rs l)) Q → Ret F fl f [.ptr pb 0, i64 v] H Q
theorem start_c {f n1 : Nat} (hF : F f = some (rf_rollout_plan_start n1)) (h1 : LastC F n1) : StartC F f := fun {fl H Q n pb b p l v} hst h0 hfl hq => by
  refine v_rollout_plan_start hF _ _ _ ?_
  unfold startR at hq
  rw [get_eq h0] at hq
  have hp := hst.ptr h0
  rw [show ((0 : Nat) : Int) = 0 from rfl] at hp
  refine ⟨_, hst.rings, _, _, hp, fun hb => ?_, fun hb => ?_⟩
  · rw [if_pos hb] at hq; exact hq l H (Keep.rfl' hst.bn) fun h => by cases h
  · rw [if_neg hb] at hq
    refine ⟨_, hst.act h0, fun ha => ?_, fun ha => ?_⟩
    · rw [if_pos ha] at hq; exact hq l H (Keep.rfl' hst.bn) fun h => by cases h
    · rw [if_neg ha] at hq
      refine ⟨_, _, _, _, hst.row.loadN (i := 0) (c := ringC l[0]) (o := 0) (n := 4) (by simp [h0]) (by decide), h1 (hst.own _ (List.getElem_mem h0)).ints fun H12 k12 => ⟨_, rfl, fun hs => ?_, fun hs => ?_⟩⟩
      · rw [if_pos hs] at hq; exact hq l H12 (k12.less hst.bn) fun h => by cases h
      · rw [if_neg hs] at hq
        obtain ⟨H14, a1, a2, a3⟩ := (hst.keep k12).num hfl h0 (o := 1) (k := 1) (v := i64 v) rfl rfl (by decide) (r := { l[0].2 with act := v }) rfl rfl
        exact ⟨H14, a1, hq _ H14 ((k12.less hst.bn).tr a2) fun _ => ⟨a3, rs_set⟩⟩

abbrev ReportC (F : Nat → Option RFunc) (f : Nat) : Prop := ∀ {fl H Q n pb b p l} {i : Nat} {c1 c2 : Int}, St n H pb b p l → i < l.length → fl ≤ n → OkP p → (∀ x ∈ l, okC x.2.good x.2.bad) → (∀ x ∈ l, x.2.conf.length ≤ 2 ^ 29) → Done n H pb b p (reportR p (rs l) i c1 c2) Q → Ret F fl f [.ptr pb 0, .ptr b (i * 4), cnt c1 c2] H Q

theorem decide_verdict {p : PP} (hp : OkP p) {g c : Int} (h : okC g c) : decideR p.b1 p.b2 g c p.need p.pm = (verdictI p.b1 p.b2 g c p.need p.pm, (0, 0)) := by
  unfold decideR twoR
  rw [if_pos hp.base, if_pos h, if_pos rfl, if_pos hp.par]

theorem report_c {f n1 n2 n3 : Nat} (hF : F f = some (rf_rollout_plan_report n1 n2 n3)) (h1 : ValidC F n1) (h2 : DecideC F n2) (h3 : AbortC F n3) : ReportC F f := fun {fl H Q n pb b p l i c1 c2} hst hi hfl hp hok hcl hq => by
  refine v_rollout_plan_report hF _ _ _ _ _ _ ?_
  intro H6 d6
  unfold reportR at hq
  rw [get_eq hi] at hq
  have hr := hok _ (List.getElem_mem hi)
  refine h1 fun H9 k9 => ⟨_, _, rfl, fun H11 d11 => ?_⟩
  have k11 := (d6.keep.call k9).call d11.keep
  have kn := k11.less hst.bn
  have hvi : ∀ (g c : Int), ((validR g c).1 = 0 ∧ (validR g c).2 = 0 ∧ True) ↔ okC g c := fun g c => by
    unfold validR
    by_cases h : okC g c
    · rw [if_pos h]; simp [h]
    · rw [if_neg h]; simp [h]
  rw [hvi]
  refine ⟨fun hb => ?_, fun hb => ?_⟩
  · rw [if_pos hb] at hq
    have : (validR c1 c2).1 = 3 := by unfold validR; rw [if_neg hb]
    rw [this]; exact hq l H11 kn fun h => by cases h
  · rw [if_neg hb] at hq
    have hb := Decidable.not_not.1 hb
    have s11 := hst.keep k11
    refine ⟨_, s11.act hi, fun ha => ?_, fun ha => ?_⟩
    · rw [if_pos ha] at hq; exact hq l H11 kn fun h => by cases h
    · rw [if_neg ha] at hq
      refine ⟨_, s11.cell hi (o := 2) rfl, _, s11.cell hi (o := 3) rfl, fun H15 d15 => ?_⟩
      have e1 : IntKind.wrap .i64 (l[i].2.good + c1) = l[i].2.good + c1 := by unfold okC at hr hb; rw [wrap64 (by omega) (by omega)]
      have e2 : IntKind.wrap .i64 (l[i].2.bad + c2) = l[i].2.bad + c2 := by unfold okC at hr hb; rw [wrap64 (by omega) (by omega)]
      rw [e1, e2]
      refine h1 fun H18 k18 => ⟨_, _, rfl, ?_⟩
      have k18 := (k11.call d15.keep).call k18
      have kn := k18.less hst.bn
      have s18 := hst.keep k18
      rw [hvi]
      refine ⟨fun hs => ?_, fun hs => ?_⟩
      · rw [if_pos hs] at hq; exact hq l H18 kn fun h => by cases h
      · rw [if_neg hs] at hq
        have hs := Decidable.not_not.1 hs
        obtain ⟨H20, a1, a2, a3⟩ := s18.num hfl hi (o := 2) (k := 2) (v := .agg [i64 (l[i].2.good + c1), i64 (l[i].2.bad + c2)]) rfl rfl (by decide) (r := { l[i].2 with good := l[i].2.good + c1, bad := l[i].2.bad + c2 }) rfl rfl
        have k20 := kn.tr a2
        refine ⟨H20, a1, _, _, a3.box.loadN (o := 0) (n := 2) (by show 2 ≤ 5; decide), _, a3.box.load (o := 2) rfl, _, a3.box.load (o := 3) rfl, ?_⟩
        refine h2 (Nat.le_refl _) fun H28 k28 => ⟨_, _, _, rfl, fun b30 H31 hb31 => ?_⟩
        obtain ⟨H32, b1, b2⟩ := put2 hb31 (fl := fl) (x := 0) (y := 0) (a := (decideR p.b1 p.b2 (l[i].2.good + c1) (l[i].2.bad + c2) p.need p.pm).2.1) (c := (decideR p.b1 p.b2 (l[i].2.good + c1) (l[i].2.bad + c2) p.need p.pm).2.2) (by have := hst.bn; have := k20.len; have := k28.len; omega)
        refine ⟨H32, b1, ?_⟩
        have k32 := k28.call b2
        have s32 := a3.keep k32
        rw [decide_verdict hp hs]
        refine ⟨fun hv => ?_, fun hv => ?_⟩
        · rw [if_pos hv] at hq
          have hi2 : i < (l.set i (l[i].1, { l[i].2 with good := l[i].2.good + c1, bad := l[i].2.bad + c2 })).length := by simpa using hi
          refine ⟨_, s32.act hi2, h3 s32 hfl (fun x hx => ?_) fun l' H35 k35 s35 hl' => ⟨_, rfl, hq l' H35 ((k20.tr (k32.less a3.bn)).tr k35) fun _ => ⟨s35, ?_⟩⟩⟩
          · rcases List.mem_or_eq_of_mem_set hx with hx | rfl
            · exact hcl x hx
            · have := hcl _ (List.getElem_mem hi)
              exact this
          · rw [hl', rs_set]
            simp only [List.getElem_set_self]
        · rw [if_neg hv] at hq
          exact hq _ H32 (k20.tr (k32.less a3.bn)) fun _ => ⟨s32, rs_set⟩

abbrev AdvanceC (F : Nat → Option RFunc) (f : Nat) : Prop := ∀ {fl H Q n pb b p l} {i : Nat}, St n H pb b p l → i < l.length → fl ≤ n → OkP p → (∀ x ∈ l, okC x.2.good x.2.bad) → (∀ x ∈ l, x.2.conf.length ≤ 2 ^ 29) → Done n H pb b p (advanceR p (rs l) i) Q → Ret F fl f [.ptr pb 0, i64 (i : Int)] H Q

/-- The end of advance: ring i confirms its version. -/
theorem confirm {fl i : Nat} {Q : AV → Heap → Prop} {P : PP → Prop} (hst : St n H pb b p l) (hfl : fl ≤ n) (hi : i < l.length) (hcl : l[i].2.conf.length ≤ 2 ^ 29)
    (hq : ∀ l' H', Keep n H H' → St n H' pb b p l' → rs l' = (rs l).set i ⟨l[i].2.conf ++ [l[i].2.act], 0, 0, 0⟩ → Q (i64 0) H') :
    ∃ (e29 : AV), rload H none b (i * 4) = some e29 ∧ ∃ (e30 : Int), rload H none b (i * 4 + 1) = some (i64 e30) ∧ ∀ (b31 : Nat) (H32 : Heap), NewB H 1 [i64 e30] b31 H32 → ∃ (a33 : AV) (H34 : Heap), appA fl true 1 8 H32 e29 (.slice b31 0 1 (some 1)) = some (a33, H34) ∧ ∃ H35 : Heap, putA fl H34 b (i * 4) 1 a33 = some H35 ∧ ∃ H36 : Heap, putA fl H35 b (i * 4 + 1) 1 (i64 0) = some H36 ∧ ∃ H37 : Heap, putA fl H36 b (i * 4 + 2) 2 (.agg [i64 0, i64 0]) = some H37 ∧ Q (i64 0) H37 := by
  refine ⟨_, hst.conf hi, _, hst.act hi, fun b31 H32 hb => ?_⟩
  have s32 := hst.keep hb.keep
  have ho := s32.own _ (List.getElem_mem hi)
  have hsl := hb.sl (n := 1) (by rfl)
  obtain ⟨w, H34, a1, a2, a3, a4, a5⟩ := ho.push (by decide) hsl s32.bn hfl (by rfl) (by omega) (bytes := 8) (by decide)
  have a2' : Own n H34 1 w (l[i].2.conf ++ [l[i].2.act]).length (ints (l[i].2.conf ++ [l[i].2.act])) := by
    rw [List.length_append]; unfold ints; rw [List.map_append]; exact a2
  obtain ⟨H35, b1, b2, b3⟩ := s32.setConf hfl hi (cf := l[i].2.conf ++ [l[i].2.act]) a3 a4 a2' a5
  refine ⟨w, H34, a1, H35, b1, ?_⟩
  have hi3 : i < (l.set i (w, { l[i].2 with conf := l[i].2.conf ++ [l[i].2.act] })).length := by simpa using hi
  have e3 : (l.set i (w, { l[i].2 with conf := l[i].2.conf ++ [l[i].2.act] }))[i] = (w, { l[i].2 with conf := l[i].2.conf ++ [l[i].2.act] }) := by simp
  obtain ⟨H36, c1, c2, c3⟩ := b3.num hfl hi3 (o := 1) (k := 1) (v := i64 0) rfl rfl (by decide) (r := ⟨l[i].2.conf ++ [l[i].2.act], 0, l[i].2.good, l[i].2.bad⟩) (by rw [e3]; rfl) (by rw [e3])
  rw [e3, List.set_set] at c3
  have hi4 : i < (l.set i (w, (⟨l[i].2.conf ++ [l[i].2.act], 0, l[i].2.good, l[i].2.bad⟩ : RS))).length := by simpa using hi
  have e4 : (l.set i (w, (⟨l[i].2.conf ++ [l[i].2.act], 0, l[i].2.good, l[i].2.bad⟩ : RS)))[i] = (w, (⟨l[i].2.conf ++ [l[i].2.act], 0, l[i].2.good, l[i].2.bad⟩ : RS)) := by simp
  obtain ⟨H37, d1, d2, d3⟩ := c3.num hfl hi4 (o := 2) (k := 2) (v := .agg [i64 0, i64 0]) rfl rfl (by decide) (r := ⟨l[i].2.conf ++ [l[i].2.act], 0, 0, 0⟩) (by rw [e4]; rfl) (by rw [e4])
  rw [e4, List.set_set] at d3
  exact ⟨H36, c1, H37, d1, hq _ H37 ((((hb.keep.less hst.bn).tr b2).tr c2).tr d2) d3 rs_set⟩

theorem advance_c {f n1 : Nat} (hF : F f = some (rf_rollout_plan_advance n1)) (h1 : DecideC F n1) : AdvanceC F f := fun {fl H Q n pb b p l i} hst hi hfl hp hok hcl hq => by
  refine v_rollout_plan_advance hF _ _ _ ?_
  unfold advanceR at hq
  rw [get_eq hi] at hq
  have hr := hok _ (List.getElem_mem hi)
  have hsm := hst.small
  refine ⟨_, hst.rings, _, _, hst.ptr hi, _, hst.act hi, fun ha => ?_, fun ha => ?_⟩
  · rw [if_pos ha] at hq; exact hq l H (Keep.rfl' hst.bn) fun h => by cases h
  · rw [if_neg ha] at hq
    refine ⟨_, _, hst.box.loadN (o := 0) (n := 2) (by show 2 ≤ 5; decide), _, _, hst.row.loadN (i := i) (c := ringC l[i]) (o := 2) (n := 2) (by simp [hi]) (by decide), _, hst.box.load (o := 2) rfl, _, hst.box.load (o := 3) rfl, ?_⟩
    refine h1 (Nat.le_refl _) fun H16 k16 => ⟨_, _, _, rfl, fun b18 H19 hb19 => ?_⟩
    obtain ⟨H20, b1, b2⟩ := put2 hb19 (fl := fl) (x := 0) (y := 0) (a := (decideR p.b1 p.b2 l[i].2.good l[i].2.bad p.need p.pm).2.1) (c := (decideR p.b1 p.b2 l[i].2.good l[i].2.bad p.need p.pm).2.2) (by have := hst.bn; have := k16.len; omega)
    refine ⟨H20, b1, ?_⟩
    have k20 := k16.call b2
    have kn := k20.less hst.bn
    have s20 := hst.keep k20
    rw [decide_verdict hp hr]
    refine ⟨fun hv => ?_, fun hv => ?_⟩
    · rw [if_pos hv] at hq; exact hq l H20 kn fun h => by cases h
    · rw [if_neg hv] at hq
      refine ⟨_, s20.rings, _, rfl, ?_⟩
      rw [wsucc hi (by omega)]
      refine ⟨fun hlt => ?_, fun hge => ?_⟩
      · have hi1 : i + 1 < l.length := by omega
        have hi1' : i + 1 < (rs l).length := by simpa using hi1
        rw [get_eq hi1] at hq
        refine ⟨_, s20.rings, _, _, s20.ptr hi1, _, s20.act hi1, fun hn => ?_, fun hn => ?_⟩
        · rw [if_pos ⟨hi1', hn⟩] at hq; exact hq l H20 kn fun h => by cases h
        · rw [if_neg fun h => hn h.2, if_pos hi1'] at hq
          obtain ⟨H28, c1, c2, c3⟩ := s20.num hfl hi1 (o := 1) (k := 1) (v := i64 l[i].2.act) rfl rfl (by decide) (r := { l[i + 1].2 with act := l[i].2.act }) rfl rfl
          have hi' : i < (l.set (i + 1) (l[i + 1].1, { l[i + 1].2 with act := l[i].2.act })).length := by simpa using hi
          have ei : (l.set (i + 1) (l[i + 1].1, { l[i + 1].2 with act := l[i].2.act }))[i] = l[i] := by rw [List.getElem_set_ne (by omega)]
          refine ⟨_, s20.act hi, H28, c1, ?_⟩
          refine confirm (P := fun _ => True) c3 hfl hi' (by rw [ei]; exact hcl _ (List.getElem_mem hi)) fun l' H' k' s' hl' => hq l' H' ((kn.tr c2).tr k') fun _ => ⟨s', ?_⟩
          rw [hl', ei, rs_set]
      · have hi1' : ¬ i + 1 < (rs l).length := by simp; omega
        rw [if_neg fun h => hi1' h.1, if_neg hi1'] at hq
        exact confirm (P := fun _ => True) s20 hfl hi (hcl _ (List.getElem_mem hi)) fun l' H' k' s' hl' => hq l' H' (kn.tr k') fun _ => ⟨s', hl'⟩

/-! ### A step -/

def evC (e : Ev) : List AV := [i64 e.kind, i64 e.ver, i64 e.ring, i64 e.g, i64 e.b]
abbrev UnusedC (F : Nat → Option RFunc) (f : Nat) : Prop := ∀ {fl H Q} {e : Ev}, (∀ H', Keep H.length H H' → Q (.bool (unusedB e)) H') → Ret F fl f [.agg (evC e)] H Q
theorem unused_c {f : Nat} (hF : F f = some rf_rollout_unused) : UnusedC F f := fun {fl H Q e} hq => by
  refine v_rollout_unused hF _ _ _ _ _ ?_
  intro H5 d5
  exact hq H5 d5.keep

abbrev StepC (F : Nat → Option RFunc) (f : Nat) : Prop := ∀ {fl H Q n pb b p l} {e : Ev}, St n H pb b p l → fl ≤ n → OkP p → (∀ x ∈ l, okC x.2.good x.2.bad) → (∀ x ∈ l, x.2.conf.length ≤ 2 ^ 29) → Done n H pb b p (stepR p (rs l) e) Q → Ret F fl f [.ptr pb 0, .agg (evC e)] H Q
theorem step_c {f n1 n2 n3 n4 n5 : Nat} (hF : F f = some (rf_rollout_plan_step n1 n2 n3 n4 n5)) (h1 : UnusedC F n1) (h2 : StartC F n2) (h3 : ReportC F n3) (h4 : AdvanceC F n4) (h5 : AbortC F n5) : StepC F f := fun {fl H Q n pb b p l e} hst hfl hp hok hcl hq => by
  refine v_rollout_plan_step hF _ _ _ _ _ _ _ ?_
  intro H7 d7
  unfold stepR at hq
  have k7 := d7.keep
  refine ⟨fun hk => ?_, fun hk => ?_⟩
  · rw [if_pos hk] at hq; exact hq l H7 (k7.less hst.bn) fun h => by cases h
  rw [if_neg hk] at hq
  refine h1 fun H9 k9 => ⟨_, rfl, ?_⟩
  have k9 := k7.call k9
  have kn := k9.less hst.bn
  have s9 := hst.keep k9
  refine ⟨fun hu => ?_, fun hu => ?_⟩
  · rw [if_pos hu] at hq; exact hq l H9 kn fun h => by cases h
  rw [if_neg hu] at hq
  have hrl : ((rs l).length : Int) = l.length := by simp
  refine ⟨fun hr => ?_, fun hr => ?_⟩
  · rw [if_pos (.inl hr)] at hq; exact hq l H9 kn fun h => by cases h
  refine ⟨_, s9.rings, _, rfl, fun hr2 => ?_, fun hr2 => ?_⟩
  · rw [if_pos (.inr (by rw [hrl]; exact hr2))] at hq; exact hq l H9 kn fun h => by cases h
  rw [if_neg (by rw [hrl]; omega)] at hq
  have hi : e.ring.toNat < l.length := by omega
  have er : ((e.ring.toNat : Nat) : Int) = e.ring := by omega
  refine ⟨fun h => ?_, fun h => ?_⟩
  · rw [if_pos h] at hq
    exact h2 s9 (by omega) hfl fun l' H' k' hd => ⟨_, rfl, hq l' H' (kn.tr k') hd⟩
  rw [if_neg h] at hq
  refine ⟨fun h => ?_, fun h => ?_⟩
  · rw [if_pos h] at hq
    have hptr := s9.ptr hi
    rw [er] at hptr
    exact ⟨_, s9.rings, _, _, hptr, h3 s9 hi hfl hp hok hcl fun l' H' k' hd => ⟨_, rfl, hq l' H' (kn.tr k') hd⟩⟩
  rw [if_neg h] at hq
  refine ⟨fun h => ?_, fun h => ?_⟩
  · rw [if_pos h] at hq
    have := h4 (fl := fl) (Q := fun v24 H23 => ∃ (r22 : Int), v24 = (.int .i64 r22) ∧ Q (.int .i64 r22) H23) s9 hi hfl hp hok hcl fun l' H' k' hd => ⟨_, rfl, hq l' H' (kn.tr k') hd⟩
    rw [er] at this
    exact this
  rw [if_neg h] at hq
  refine h5 s9 hfl hcl fun l' H' k' s' hl' => ⟨_, rfl, fun hh => ?_, fun hh => ?_⟩
  · rw [if_neg (by simpa using hh)] at hq; exact hq l' H' (kn.tr k') fun h => by cases h
  · rw [if_pos (by simpa using hh)] at hq; exact hq l' H' (kn.tr k') fun _ => ⟨s', hl'⟩

end Go.RM

