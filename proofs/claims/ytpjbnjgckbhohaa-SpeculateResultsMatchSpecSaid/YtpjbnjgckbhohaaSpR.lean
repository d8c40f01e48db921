import Derived.Test.YtpjbnjgckbhohaaRmWp
/-
  Functions of the program as the abstract machine runs them, and what must be shown of a run: printed by RmPrint.
-/
namespace Go.RM
set_option linter.unusedVariables false
set_option maxRecDepth 4000
def rf_FRunCode : RFunc := ⟨2, 10, [.var 2],
 ((.seq (.ops [⟨.tomb 1 (.var 1), none, (some 3), true⟩, ⟨.move (.k (.int .i64 0)), none, (some 2), true⟩])
 ((.seq ((.seq (.ops [⟨.field 0 none (.var 3), none, none, true⟩, ⟨.field 0 none (.var 3), none, none, true⟩, ⟨.bin .lss .no (.loc 1) (.k (.int .i64 0)), none, none, true⟩, ⟨.move (.loc 2), none, none, true⟩, ⟨.field 0 none (.var 3), none, none, true⟩, ⟨.field 0 none (.var 3), none, none, true⟩, ⟨.move (.var 0), none, none, true⟩, ⟨.bin .geq .no (.loc 5) (.loc 6), none, none, true⟩, ⟨.pick (.loc 3) (.k (.bool true)) (.loc 7), none, (some 4), true⟩])
 (.cond (.var 4) ((.seq (.ops [⟨.move (.k (.int .i64 3)), none, (some 2), true⟩])
 (.ret))) (.skip))))
 ((.seq (.ops [⟨.move (.k (.int .i64 (-1))), none, (some 8), true⟩])
 ((.seq ((.seq (.ops [⟨.move (.k (.int .i64 0)), none, (some 5), true⟩])
 (.block 0 (.loop ((.seq ((.seq (.ops [⟨.move (.var 5), none, none, true⟩, ⟨.field 0 none (.var 3), none, none, true⟩, ⟨.field 1 none (.var 3), none, none, true⟩, ⟨.len (.loc 2), none, none, true⟩, ⟨.bin .lss .no (.loc 0) (.loc 3), none, (some 6), true⟩])
 (.cond (.var 6) (.skip) (.exit 0))))
 ((.seq (.block 1 ((.seq ((.seq (.ops [⟨.field 0 none (.var 3), none, none, true⟩, ⟨.field 1 none (.var 3), none, none, true⟩, ⟨.move (.var 5), none, none, false⟩, ⟨.indexAddr 1 (.loc 1) (.loc 2), none, none, true⟩, ⟨.load none (.loc 3), none, none, true⟩, ⟨.bin .lss .no (.loc 4) (.k (.int .i64 0)), none, none, true⟩, ⟨.move (.loc 5), none, none, true⟩, ⟨.field 0 none (.var 3), none, none, false⟩, ⟨.field 1 none (.var 3), none, none, false⟩, ⟨.move (.var 5), none, none, false⟩, ⟨.indexAddr 1 (.loc 8) (.loc 9), (some (6, false)), none, false⟩, ⟨.load none (.loc 10), (some (6, false)), none, false⟩, ⟨.field 0 none (.var 3), none, none, false⟩, ⟨.field 0 none (.var 3), none, none, false⟩, ⟨.bin .geq .no (.loc 11) (.loc 13), (some (6, false)), none, true⟩, ⟨.pick (.loc 6) (.k (.bool true)) (.loc 14), none, (some 7), true⟩])
 (.cond (.var 7) ((.seq (.ops [⟨.move (.k (.int .i64 3)), none, (some 2), true⟩])
 (.ret))) (.skip))))
 ((.seq ((.seq (.ops [⟨.field 0 none (.var 3), none, none, true⟩, ⟨.field 1 none (.var 3), none, none, true⟩, ⟨.move (.var 5), none, none, true⟩, ⟨.indexAddr 1 (.loc 1) (.loc 2), none, none, true⟩, ⟨.load none (.loc 3), none, none, true⟩, ⟨.move (.var 8), none, none, true⟩, ⟨.bin .leq .no (.loc 4) (.loc 5), none, (some 9), true⟩])
 (.cond (.var 9) ((.seq (.ops [⟨.move (.k (.int .i64 5)), none, (some 2), true⟩])
 (.ret))) (.skip))))
 (.ops [⟨.field 0 none (.var 3), none, none, true⟩, ⟨.field 1 none (.var 3), none, none, true⟩, ⟨.move (.var 5), none, none, true⟩, ⟨.indexAddr 1 (.loc 1) (.loc 2), none, none, true⟩, ⟨.load none (.loc 3), none, none, true⟩, ⟨.move (.loc 4), none, (some 8), true⟩]))))))
 (.ops [⟨.move (.var 5), none, none, true⟩, ⟨.bin .add .no (.loc 0) (.k (.int .i64 1)), none, none, true⟩, ⟨.move (.loc 1), none, (some 5), true⟩])))))))))
 ((.seq (.ops [⟨.move (.k (.int .i64 0)), none, (some 2), true⟩])
 (.ret))))))))))), none⟩
theorem v_FRunCode {F : Nat → Option RFunc} {me : Nat} (hF : F me = some (rf_FRunCode )) {fl : Nat} {H : Heap} {Q : AV → Heap → Prop} (n0 : Int) (r1 : Int) (r2 : AV)
  (h : ∀ (H3 : Heap), Dead1 H 1 H3 → ((((r1 < 0) ∨ (r1 ≥ n0))) → Q (.int .i64 3) H3) ∧ (¬(((r1 < 0) ∨ (r1 ≥ n0))) → ∃ (J4 : Nat → Int → Int → Prop) (k5 : Nat), J4 k5 0 (-1) ∧ (∀ (m6 : Nat) (i8 : Int) (last11 : Int), J4 m6 i8 last11 → ∃ len13 : Nat, lenA r2 = some len13 ∧ ((i8 < (len13 : Int)) → ∃ (e14 : Int), getA H3 1 none r2 i8 0 = some (.int .i64 e14) ∧ ((e14 < 0) → Q (.int .i64 3) H3) ∧ (¬(e14 < 0) → ∃ (e16 : Int), getA H3 1 none r2 i8 0 = some (.int .i64 e16) ∧ ((e16 ≥ r1) → Q (.int .i64 3) H3) ∧ (¬(e16 ≥ r1) → ∃ (e18 : Int), getA H3 1 none r2 i8 0 = some (.int .i64 e18) ∧ ((e18 ≤ last11) → Q (.int .i64 5) H3) ∧ (¬(e18 ≤ last11) → ∃ (e20 : Int), getA H3 1 none r2 i8 0 = some (.int .i64 e20) ∧ ∃ m22 : Nat, m22 < m6 ∧ J4 m22 (IntKind.wrap .i64 (i8 + 1)) e20)))) ∧ (¬(i8 < (len13 : Int)) → Q (.int .i64 0) H3)))) : Ret F fl me [(.int .i64 n0), (.agg [(.int .i64 r1), r2])] H Q := by
  refine ret_intro hF rfl ?_
  refine w_seq ?_
  refine w_run [1, 0] ?_
  obtain ⟨H3, hb⟩ : ∃ H', Dead1 H 1 H' := ⟨_, ⟨rfl⟩⟩
  replace h := h H3 hb
  refine t_tomb true 1 (.agg [(.int .i64 r1), r2]) [(.int .i64 r1), r2] H3 H (by kernel_rfl) rfl hb ?_
  refine t_done [(.int .i64 n0), (.agg [(.int .i64 r1), r2]), (.int .i64 0), (.agg [(.int .i64 r1), r2]), .undef, .undef, .undef, .undef, .undef, .undef] H3 (by kernel_rfl) ?_
  refine then_norm ?_
  refine w_seq ?_
  refine w_seq ?_
  refine w_run [0, 0, 0, 0, 0, 0, 0, 0, 0] ?_
  refine t_done [(.int .i64 n0), (.agg [(.int .i64 r1), r2]), (.int .i64 0), (.agg [(.int .i64 r1), r2]), (.bool ((decide (r1 < 0)) || (decide (r1 ≥ n0)))), .undef, .undef, .undef, .undef, .undef] H3 (by kernel_rfl) ?_
  refine then_norm ?_
  refine w_cond (t := ((decide (r1 < 0)) || (decide (r1 ≥ n0)))) rfl (fun hc => ?_) (fun hc => ?_)
  · replace h := h.1 ((is_or is_dec is_dec).t hc)
    refine w_seq ?_
    refine w_run [0] ?_
    refine t_done [(.int .i64 n0), (.agg [(.int .i64 r1), r2]), (.int .i64 3), (.agg [(.int .i64 r1), r2]), (.bool ((decide (r1 < 0)) || (decide (r1 ≥ n0)))), .undef, .undef, .undef, .undef, .undef] H3 (by kernel_rfl) ?_
    refine then_norm ?_
    refine w_ret ?_
    refine then_ret ?_
    exact body_ret (vs := [(.int .i64 3)]) _ (by kernel_rfl) rfl h
  · replace h := h.2 ((is_or is_dec is_dec).f hc)
    refine w_skip ?_
    refine then_norm ?_
    refine w_seq ?_
    refine w_run [0] ?_
    refine t_done [(.int .i64 n0), (.agg [(.int .i64 r1), r2]), (.int .i64 0), (.agg [(.int .i64 r1), r2]), (.bool ((decide (r1 < 0)) || (decide (r1 ≥ n0)))), .undef, .undef, .undef, (.int .i64 (-1)), .undef] H3 (by kernel_rfl) ?_
    refine then_norm ?_
    refine w_seq ?_
    refine w_seq ?_
    refine w_run [0] ?_
    refine t_done [(.int .i64 n0), (.agg [(.int .i64 r1), r2]), (.int .i64 0), (.agg [(.int .i64 r1), r2]), (.bool ((decide (r1 < 0)) || (decide (r1 ≥ n0)))), (.int .i64 0), .undef, .undef, (.int .i64 (-1)), .undef] H3 (by kernel_rfl) ?_
    refine then_norm ?_
    refine w_block ?_
    obtain ⟨J4, k5, h0, h⟩ := h
    refine w_loop (I := fun mI EI HI => ∃ (d7 : AV) (i8 : Int) (d9 : AV) (d10 : AV) (last11 : Int) (d12 : AV), EI = [(.int .i64 n0), (.agg [(.int .i64 r1), r2]), d7, (.agg [(.int .i64 r1), r2]), (.bool ((decide (r1 < 0)) || (decide (r1 ≥ n0)))), (.int .i64 i8), d9, d10, (.int .i64 last11), d12] ∧ H3 = HI ∧ J4 mI i8 last11) ?_ k5 ⟨_, _, _, _, _, _, rfl, rfl, h0⟩
    clear h0
    rintro m6 EI HI ⟨d7, i8, d9, d10, last11, d12, rfl, rfl, hJ⟩
    replace h := h m6 i8 last11  hJ
    clear hJ
    refine w_seq ?_
    refine w_seq ?_
    refine w_run [0, 0, 0, 1, 0] ?_
    obtain ⟨len13, hl, h⟩ := h
    refine t_len true r2 len13 H3 (by kernel_rfl) hl ?_
    refine t_done [(.int .i64 n0), (.agg [(.int .i64 r1), r2]), d7, (.agg [(.int .i64 r1), r2]), (.bool ((decide (r1 < 0)) || (decide (r1 ≥ n0)))), (.int .i64 i8), (.bool (decide (i8 < (len13 : Int)))), d10, (.int .i64 last11), d12] H3 (by kernel_rfl) ?_
    refine then_norm ?_
    refine w_cond (t := (decide (i8 < (len13 : Int)))) rfl (fun hc => ?_) (fun hc => ?_)
    · replace h := h.1 (is_dec.t hc)
      refine w_skip ?_
      refine then_norm ?_
      refine w_seq ?_
      refine w_block ?_
      refine w_seq ?_
      refine w_seq ?_
      refine w_run [0, 0, 0, 1, 1, 0, 0, 0, 0, 0, 3, 3, 0, 0, 2, 0] ?_
      obtain ⟨e14, hg15, h⟩ := h
      refine t_idxG true 1 r2 .i64 i8 H3 (by kernel_rfl) hg15 ?_
      refine t_loadG true none 1 r2 i8 0 (.int .i64 e14) H3 (by kernel_rfl) hg15 ?_
      refine t_gd (decide (e14 < 0)) false (by kernel_rfl) (fun hc => ?_) (fun hc => ?_)
      · replace h := h.2 (is_dec.f hc)
        obtain ⟨e16, hg17, h⟩ := h
        refine t_idxG false 1 r2 .i64 i8 H3 (by kernel_rfl) hg17 ?_
        refine t_gd false false (by kernel_rfl) (fun _ => ?_) (fun hn => by cases hn)
        refine t_loadG false none 1 r2 i8 0 (.int .i64 e16) H3 (by kernel_rfl) hg17 ?_
        refine t_gd false false (by kernel_rfl) (fun _ => ?_) (fun hn => by cases hn)
        refine t_done [(.int .i64 n0), (.agg [(.int .i64 r1), r2]), d7, (.agg [(.int .i64 r1), r2]), (.bool ((decide (r1 < 0)) || (decide (r1 ≥ n0)))), (.int .i64 i8), (.bool (decide (i8 < (len13 : Int)))), (.bool (decide (e16 ≥ r1))), (.int .i64 last11), d12] H3 (by kernel_rfl) ?_
        refine then_norm ?_
        refine w_cond (t := (decide (e16 ≥ r1))) rfl (fun hc => ?_) (fun hc => ?_)
        · replace h := h.1 (is_dec.t hc)
          refine w_seq ?_
          refine w_run [0] ?_
          refine t_done [(.int .i64 n0), (.agg [(.int .i64 r1), r2]), (.int .i64 3), (.agg [(.int .i64 r1), r2]), (.bool ((decide (r1 < 0)) || (decide (r1 ≥ n0)))), (.int .i64 i8), (.bool (decide (i8 < (len13 : Int)))), (.bool (decide (e16 ≥ r1))), (.int .i64 last11), d12] H3 (by kernel_rfl) ?_
          refine then_norm ?_
          refine w_ret ?_
          refine then_ret ?_
          refine block_ret ?_
          refine then_ret ?_
          refine loop_ret ?_
          refine block_ret ?_
          refine then_ret ?_
          exact body_ret (vs := [(.int .i64 3)]) _ (by kernel_rfl) rfl h
        · replace h := h.2 (is_dec.f hc)
          refine w_skip ?_
          refine then_norm ?_
          refine w_seq ?_
          refine w_seq ?_
          refine w_run [0, 0, 0, 1, 1, 0, 0] ?_
          obtain ⟨e18, hg19, h⟩ := h
          refine t_idxG true 1 r2 .i64 i8 H3 (by kernel_rfl) hg19 ?_
          refine t_loadG true none 1 r2 i8 0 (.int .i64 e18) H3 (by kernel_rfl) hg19 ?_
          refine t_done [(.int .i64 n0), (.agg [(.int .i64 r1), r2]), d7, (.agg [(.int .i64 r1), r2]), (.bool ((decide (r1 < 0)) || (decide (r1 ≥ n0)))), (.int .i64 i8), (.bool (decide (i8 < (len13 : Int)))), (.bool (decide (e16 ≥ r1))), (.int .i64 last11), (.bool (decide (e18 ≤ last11)))] H3 (by kernel_rfl) ?_
          refine then_norm ?_
          refine w_cond (t := (decide (e18 ≤ last11))) rfl (fun hc => ?_) (fun hc => ?_)
          · replace h := h.1 (is_dec.t hc)
            refine w_seq ?_
            refine w_run [0] ?_
            refine t_done [(.int .i64 n0), (.agg [(.int .i64 r1), r2]), (.int .i64 5), (.agg [(.int .i64 r1), r2]), (.bool ((decide (r1 < 0)) || (decide (r1 ≥ n0)))), (.int .i64 i8), (.bool (decide (i8 < (len13 : Int)))), (.bool (decide (e16 ≥ r1))), (.int .i64 last11), (.bool (decide (e18 ≤ last11)))] H3 (by kernel_rfl) ?_
            refine then_norm ?_
            refine w_ret ?_
            refine then_ret ?_
            refine block_ret ?_
            refine then_ret ?_
            refine loop_ret ?_
            refine block_ret ?_
            refine then_ret ?_
            exact body_ret (vs := [(.int .i64 5)]) _ (by kernel_rfl) rfl h
          · replace h := h.2 (is_dec.f hc)
            refine w_skip ?_
            refine then_norm ?_
            refine w_run [0, 0, 0, 1, 1, 0] ?_
            obtain ⟨e20, hg21, h⟩ := h
            refine t_idxG true 1 r2 .i64 i8 H3 (by kernel_rfl) hg21 ?_
            refine t_loadG true none 1 r2 i8 0 (.int .i64 e20) H3 (by kernel_rfl) hg21 ?_
            refine t_done [(.int .i64 n0), (.agg [(.int .i64 r1), r2]), d7, (.agg [(.int .i64 r1), r2]), (.bool ((decide (r1 < 0)) || (decide (r1 ≥ n0)))), (.int .i64 i8), (.bool (decide (i8 < (len13 : Int)))), (.bool (decide (e16 ≥ r1))), (.int .i64 e20), (.bool (decide (e18 ≤ last11)))] H3 (by kernel_rfl) ?_
            refine block_norm ?_
            refine then_norm ?_
            refine w_run [0, 0, 0] ?_
            refine t_done [(.int .i64 n0), (.agg [(.int .i64 r1), r2]), d7, (.agg [(.int .i64 r1), r2]), (.bool ((decide (r1 < 0)) || (decide (r1 ≥ n0)))), (.int .i64 (IntKind.wrap .i64 (i8 + 1))), (.bool (decide (i8 < (len13 : Int)))), (.bool (decide (e16 ≥ r1))), (.int .i64 e20), (.bool (decide (e18 ≤ last11)))] H3 (by kernel_rfl) ?_
            obtain ⟨m', hm, h⟩ := h
            refine loop_norm ⟨m', hm, _, _, _, _, _, _, rfl, rfl, h⟩
      · replace h := h.1 (is_dec.t hc)
        refine t_gd true false (by kernel_rfl) (fun hn => by cases hn) (fun _ => ?_)
        refine t_gd true false (by kernel_rfl) (fun hn => by cases hn) (fun _ => ?_)
        refine t_done [(.int .i64 n0), (.agg [(.int .i64 r1), r2]), d7, (.agg [(.int .i64 r1), r2]), (.bool ((decide (r1 < 0)) || (decide (r1 ≥ n0)))), (.int .i64 i8), (.bool (decide (i8 < (len13 : Int)))), (.bool true), (.int .i64 last11), d12] H3 (by kernel_rfl) ?_
        refine then_norm ?_
        refine w_cond (t := true) rfl (fun _ => ?_) (fun hc => by cases hc)
        refine w_seq ?_
        refine w_run [0] ?_
        refine t_done [(.int .i64 n0), (.agg [(.int .i64 r1), r2]), (.int .i64 3), (.agg [(.int .i64 r1), r2]), (.bool ((decide (r1 < 0)) || (decide (r1 ≥ n0)))), (.int .i64 i8), (.bool (decide (i8 < (len13 : Int)))), (.bool true), (.int .i64 last11), d12] H3 (by kernel_rfl) ?_
        refine then_norm ?_
        refine w_ret ?_
        refine then_ret ?_
        refine block_ret ?_
        refine then_ret ?_
        refine loop_ret ?_
        refine block_ret ?_
        refine then_ret ?_
        exact body_ret (vs := [(.int .i64 3)]) _ (by kernel_rfl) rfl h
    · replace h := h.2 (is_dec.f hc)
      refine w_exit ?_
      refine then_exit ?_
      refine loop_exit ?_
      refine block_exit ?_
      refine then_norm ?_
      refine w_seq ?_
      refine w_run [0] ?_
      refine t_done [(.int .i64 n0), (.agg [(.int .i64 r1), r2]), (.int .i64 0), (.agg [(.int .i64 r1), r2]), (.bool ((decide (r1 < 0)) || (decide (r1 ≥ n0)))), (.int .i64 i8), (.bool (decide (i8 < (len13 : Int)))), d10, (.int .i64 last11), d12] H3 (by kernel_rfl) ?_
      refine then_norm ?_
      refine w_ret ?_
      exact body_ret (vs := [(.int .i64 0)]) _ (by kernel_rfl) rfl h

def rf_FResultsFault (nFFault nFRunCode nFEqualRuns : Nat) : RFunc := ⟨2, 11, [.part 2 (some 2)],
 ((.seq (.ops [⟨.tomb 1 (.k (.agg [.int .i64 0, .int .i64 0])), none, (some 2), true⟩])
 ((.seq ((.seq (.ops [⟨.move (.var 0), none, none, true⟩, ⟨.bin .lss .no (.loc 0) (.k (.int .i64 0)), none, none, true⟩, ⟨.move (.loc 1), none, none, true⟩, ⟨.move (.var 0), none, none, true⟩, ⟨.bin .gtr .no (.loc 3) (.k (.int .i64 8)), none, none, true⟩, ⟨.pick (.loc 2) (.k (.bool true)) (.loc 4), none, (some 3), true⟩])
 (.cond (.var 3) ((.seq (.ops [⟨.callS nFFault [(.k (.int .i64 3)), (.k (.int .i64 (-2)))], none, none, true⟩, ⟨.upd 2 0 (.var 2) (.loc 0), none, (some 2), true⟩])
 (.ret))) (.skip))))
 ((.seq ((.seq (.ops [⟨.move (.var 1), none, none, true⟩, ⟨.len (.loc 0), none, none, true⟩, ⟨.bin .gtr .no (.loc 1) (.k (.int .i64 16)), none, (some 4), true⟩])
 (.cond (.var 4) ((.seq (.ops [⟨.callS nFFault [(.k (.int .i64 2)), (.k (.int .i64 (-1)))], none, none, true⟩, ⟨.upd 2 0 (.var 2) (.loc 0), none, (some 2), true⟩])
 (.ret))) (.skip))))
 ((.seq ((.seq (.ops [⟨.move (.k (.int .i64 0)), none, (some 5), true⟩])
 (.block 0 (.loop ((.seq ((.seq (.ops [⟨.move (.var 5), none, none, true⟩, ⟨.move (.var 1), none, none, true⟩, ⟨.len (.loc 1), none, none, true⟩, ⟨.bin .lss .no (.loc 0) (.loc 2), none, (some 6), true⟩])
 (.cond (.var 6) (.skip) (.exit 0))))
 ((.seq (.block 1 ((.seq ((.seq (.ops [⟨.move (.var 0), none, none, true⟩, ⟨.move (.var 1), none, none, true⟩, ⟨.move (.var 5), none, none, true⟩, ⟨.indexAddr 3 (.loc 1) (.loc 2), none, none, true⟩, ⟨.fieldAddr 0 (.loc 3), none, none, true⟩, ⟨.load (some 2) (.loc 4), none, none, true⟩, ⟨.callS nFRunCode [(.loc 0), (.loc 5)], none, none, true⟩, ⟨.bin .neq .no (.loc 6) (.k (.int .i64 0)), none, (some 7), true⟩])
 (.cond (.var 7) ((.seq (.ops [⟨.move (.var 0), none, none, true⟩, ⟨.move (.var 1), none, none, true⟩, ⟨.move (.var 5), none, none, true⟩, ⟨.indexAddr 3 (.loc 1) (.loc 2), none, none, true⟩, ⟨.fieldAddr 0 (.loc 3), none, none, true⟩, ⟨.load (some 2) (.loc 4), none, none, true⟩, ⟨.callS nFRunCode [(.loc 0), (.loc 5)], none, none, true⟩, ⟨.move (.var 5), none, none, true⟩, ⟨.callS nFFault [(.loc 6), (.loc 7)], none, none, true⟩, ⟨.upd 2 0 (.var 2) (.loc 8), none, (some 2), true⟩])
 (.ret))) (.skip))))
 ((.seq (.ops [⟨.move (.k (.int .i64 0)), none, (some 8), true⟩])
 (.block 2 (.loop ((.seq ((.seq (.ops [⟨.move (.var 8), none, none, true⟩, ⟨.move (.var 5), none, none, true⟩, ⟨.bin .lss .no (.loc 0) (.loc 1), none, (some 9), true⟩])
 (.cond (.var 9) (.skip) (.exit 2))))
 ((.seq (.block 3 ((.seq (.ops [⟨.move (.var 1), none, none, false⟩, ⟨.move (.var 5), none, none, false⟩, ⟨.indexAddr 3 (.loc 0) (.loc 1), none, none, false⟩, ⟨.fieldAddr 0 (.loc 2), none, none, false⟩, ⟨.load (some 2) (.loc 3), none, none, false⟩, ⟨.move (.var 1), none, none, false⟩, ⟨.move (.var 8), none, none, false⟩, ⟨.indexAddr 3 (.loc 5) (.loc 6), none, none, false⟩, ⟨.fieldAddr 0 (.loc 7), none, none, false⟩, ⟨.load (some 2) (.loc 8), none, none, false⟩, ⟨.callS nFEqualRuns [(.loc 4), (.loc 9)], none, none, true⟩, ⟨.move (.loc 10), none, none, true⟩, ⟨.move (.var 1), none, none, false⟩, ⟨.move (.var 5), none, none, false⟩, ⟨.indexAddr 3 (.loc 12) (.loc 13), (some (11, true)), none, false⟩, ⟨.fieldAddr 2 (.loc 14), (some (11, true)), none, false⟩, ⟨.load none (.loc 15), (some (11, true)), none, false⟩, ⟨.move (.var 1), none, none, false⟩, ⟨.move (.var 8), none, none, false⟩, ⟨.indexAddr 3 (.loc 17) (.loc 18), (some (11, true)), none, false⟩, ⟨.fieldAddr 2 (.loc 19), (some (11, true)), none, false⟩, ⟨.load none (.loc 20), (some (11, true)), none, false⟩, ⟨.bin .neq .bool (.loc 16) (.loc 21), (some (11, true)), none, true⟩, ⟨.pick (.loc 11) (.loc 22) (.k (.bool false)), none, (some 10), true⟩])
 (.cond (.var 10) ((.seq (.ops [⟨.move (.var 5), none, none, true⟩, ⟨.callS nFFault [(.k (.int .i64 19)), (.loc 0)], none, none, true⟩, ⟨.upd 2 0 (.var 2) (.loc 1), none, (some 2), true⟩])
 (.ret))) (.skip)))))
 (.ops [⟨.move (.var 8), none, none, true⟩, ⟨.bin .add .no (.loc 0) (.k (.int .i64 1)), none, none, true⟩, ⟨.move (.loc 1), none, (some 8), true⟩]))))))))))))
 (.ops [⟨.move (.var 5), none, none, true⟩, ⟨.bin .add .no (.loc 0) (.k (.int .i64 1)), none, none, true⟩, ⟨.move (.loc 1), none, (some 5), true⟩])))))))))
 ((.seq (.ops [⟨.callS nFFault [(.k (.int .i64 0)), (.k (.int .i64 0))], none, none, true⟩, ⟨.upd 2 0 (.var 2) (.loc 0), none, (some 2), true⟩])
 (.ret))))))))))), none⟩
theorem v_FResultsFault {F : Nat → Option RFunc} {me nFFault nFRunCode nFEqualRuns : Nat} (hF : F me = some (rf_FResultsFault nFFault nFRunCode nFEqualRuns)) {fl : Nat} {H : Heap} {Q : AV → Heap → Prop} (n0 : Int) (l1 : AV)
  (h : ∀ (H2 : Heap), Dead1 H 1 H2 → ((((n0 < 0) ∨ (n0 > 8))) → Ret F fl nFFault [(.int .i64 3), (.int .i64 (-2))] H2 (fun v6 H5 => ∃ (r3 : Int) (r4 : Int), v6 = (.agg [(.int .i64 r3), (.int .i64 r4)]) ∧ Q (.agg [(.int .i64 r3), (.int .i64 r4)]) H5)) ∧ (¬(((n0 < 0) ∨ (n0 > 8))) → ∃ len7 : Nat, lenA l1 = some len7 ∧ (((len7 : Int) > 16) → Ret F fl nFFault [(.int .i64 2), (.int .i64 (-1))] H2 (fun v11 H10 => ∃ (r8 : Int) (r9 : Int), v11 = (.agg [(.int .i64 r8), (.int .i64 r9)]) ∧ Q (.agg [(.int .i64 r8), (.int .i64 r9)]) H10)) ∧ (¬((len7 : Int) > 16) → ∃ (J12 : Nat → Int → Int → Int → Heap → Prop) (k13 : Nat), J12 k13 0 0 0 H2 ∧ (∀ (m14 : Nat) (v15 : Int) (v16 : Int) (i17 : Int) (H23 : Heap), J12 m14 v15 v16 i17 H23 → ∃ len24 : Nat, lenA l1 = some len24 ∧ ((i17 < (len24 : Int)) → ∃ (e25 : Int) (e26 : AV), getA H23 3 (some 2) l1 i17 0 = some (.agg [(.int .i64 e25), e26]) ∧ Ret F fl nFRunCode [(.int .i64 n0), (.agg [(.int .i64 e25), e26])] H23 (fun v30 H29 => ∃ (r28 : Int), v30 = (.int .i64 r28) ∧ ((r28 ≠ 0) → ∃ (e31 : Int) (e32 : AV), getA H29 3 (some 2) l1 i17 0 = some (.agg [(.int .i64 e31), e32]) ∧ Ret F fl nFRunCode [(.int .i64 n0), (.agg [(.int .i64 e31), e32])] H29 (fun v36 H35 => ∃ (r34 : Int), v36 = (.int .i64 r34) ∧ Ret F fl nFFault [(.int .i64 r34), (.int .i64 i17)] H35 (fun v40 H39 => ∃ (r37 : Int) (r38 : Int), v40 = (.agg [(.int .i64 r37), (.int .i64 r38)]) ∧ Q (.agg [(.int .i64 r37), (.int .i64 r38)]) H39))) ∧ (¬(r28 ≠ 0) → ∃ (J41 : Nat → Int → Int → Int → Heap → Prop) (k42 : Nat), J41 k42 v15 v16 0 H29 ∧ (∀ (m43 : Nat) (v44 : Int) (v45 : Int) (k46 : Int) (H49 : Heap), J41 m43 v44 v45 k46 H49 → ((k46 < i17) → ∃ (e50 : Int) (e51 : AV), getA H49 3 (some 2) l1 i17 0 = some (.agg [(.int .i64 e50), e51]) ∧ ∃ (e53 : Int) (e54 : AV), getA H49 3 (some 2) l1 k46 0 = some (.agg [(.int .i64 e53), e54]) ∧ Ret F fl nFEqualRuns [(.agg [(.int .i64 e50), e51]), (.agg [(.int .i64 e53), e54])] H49 (fun v58 H57 => ∃ (r56 : Bool), v58 = (.bool r56) ∧ ((r56 = true) → ∃ (e59 : Bool), getA H57 3 none l1 i17 2 = some (.bool e59) ∧ ∃ (e61 : Bool), getA H57 3 none l1 k46 2 = some (.bool e61) ∧ ((¬(e59 = e61)) → Ret F fl nFFault [(.int .i64 19), (.int .i64 i17)] H57 (fun v66 H65 => ∃ (r63 : Int) (r64 : Int), v66 = (.agg [(.int .i64 r63), (.int .i64 r64)]) ∧ Q (.agg [(.int .i64 r63), (.int .i64 r64)]) H65)) ∧ (¬(¬(e59 = e61)) → ∃ m67 : Nat, m67 < m43 ∧ J41 m67 v44 v45 (IntKind.wrap .i64 (k46 + 1)) H57)) ∧ (¬(r56 = true) → ∃ m68 : Nat, m68 < m43 ∧ J41 m68 v44 v45 (IntKind.wrap .i64 (k46 + 1)) H57))) ∧ (¬(k46 < i17) → ∃ m69 : Nat, m69 < m14 ∧ J12 m69 v44 v45 (IntKind.wrap .i64 (i17 + 1)) H49))))) ∧ (¬(i17 < (len24 : Int)) → Ret F fl nFFault [(.int .i64 0), (.int .i64 0)] H23 (fun v73 H72 => ∃ (r70 : Int) (r71 : Int), v73 = (.agg [(.int .i64 r70), (.int .i64 r71)]) ∧ Q (.agg [(.int .i64 r70), (.int .i64 r71)]) H72)))))) : Ret F fl me [(.int .i64 n0), l1] H Q := by
  refine ret_intro hF rfl ?_
  refine w_seq ?_
  refine w_run [1] ?_
  obtain ⟨H2, hb⟩ : ∃ H', Dead1 H 1 H' := ⟨_, ⟨rfl⟩⟩
  replace h := h H2 hb
  refine t_tomb true 1 (.agg [(.int .i64 0), (.int .i64 0)]) [(.int .i64 0), (.int .i64 0)] H2 H (by kernel_rfl) rfl hb ?_
  refine t_done [(.int .i64 n0), l1, (.agg [(.int .i64 0), (.int .i64 0)]), .undef, .undef, .undef, .undef, .undef, .undef, .undef, .undef] H2 (by kernel_rfl) ?_
  refine then_norm ?_
  refine w_seq ?_
  refine w_seq ?_
  refine w_run [0, 0, 0, 0, 0, 0] ?_
  refine t_done [(.int .i64 n0), l1, (.agg [(.int .i64 0), (.int .i64 0)]), (.bool ((decide (n0 < 0)) || (decide (n0 > 8)))), .undef, .undef, .undef, .undef, .undef, .undef, .undef] H2 (by kernel_rfl) ?_
  refine then_norm ?_
  refine w_cond (t := ((decide (n0 < 0)) || (decide (n0 > 8)))) rfl (fun hc => ?_) (fun hc => ?_)
  · replace h := h.1 ((is_or is_dec is_dec).t hc)
    refine w_seq ?_
    refine w_run [1, 1] ?_
    refine t_call true nFFault [(.int .i64 3), (.int .i64 (-2))] H2 (by kernel_rfl) h ?_
    clear h
    rintro _ H5 ⟨r3, r4, rfl, h⟩
    refine t_upd true 2 0 [(.int .i64 0), (.int .i64 0)] (.agg [(.int .i64 r3), (.int .i64 r4)]) [(.int .i64 r3), (.int .i64 r4)] [(.int .i64 r3), (.int .i64 r4)] H5 (by kernel_rfl) rfl (all_c rfl (all_c rfl all_n)) ⟨rfl, Nat.le_of_ble_eq_true (by kernel_rfl), rfl⟩ ?_
    refine t_done [(.int .i64 n0), l1, (.agg [(.int .i64 r3), (.int .i64 r4)]), (.bool ((decide (n0 < 0)) || (decide (n0 > 8)))), .undef, .undef, .undef, .undef, .undef, .undef, .undef] H5 (by kernel_rfl) ?_
    refine then_norm ?_
    refine w_ret ?_
    refine then_ret ?_
    exact body_ret (vs := [(.agg [(.int .i64 r3), (.int .i64 r4)])]) _ (by kernel_rfl) rfl h
  · replace h := h.2 ((is_or is_dec is_dec).f hc)
    refine w_skip ?_
    refine then_norm ?_
    refine w_seq ?_
    refine w_seq ?_
    refine w_run [0, 1, 0] ?_
    obtain ⟨len7, hl, h⟩ := h
    refine t_len true l1 len7 H2 (by kernel_rfl) hl ?_
    refine t_done [(.int .i64 n0), l1, (.agg [(.int .i64 0), (.int .i64 0)]), (.bool ((decide (n0 < 0)) || (decide (n0 > 8)))), (.bool (decide ((len7 : Int) > 16))), .undef, .undef, .undef, .undef, .undef, .undef] H2 (by kernel_rfl) ?_
    refine then_norm ?_
    refine w_cond (t := (decide ((len7 : Int) > 16))) rfl (fun hc => ?_) (fun hc => ?_)
    · replace h := h.1 (is_dec.t hc)
      refine w_seq ?_
      refine w_run [1, 1] ?_
      refine t_call true nFFault [(.int .i64 2), (.int .i64 (-1))] H2 (by kernel_rfl) h ?_
      clear h
      rintro _ H10 ⟨r8, r9, rfl, h⟩
      refine t_upd true 2 0 [(.int .i64 0), (.int .i64 0)] (.agg [(.int .i64 r8), (.int .i64 r9)]) [(.int .i64 r8), (.int .i64 r9)] [(.int .i64 r8), (.int .i64 r9)] H10 (by kernel_rfl) rfl (all_c rfl (all_c rfl all_n)) ⟨rfl, Nat.le_of_ble_eq_true (by kernel_rfl), rfl⟩ ?_
      refine t_done [(.int .i64 n0), l1, (.agg [(.int .i64 r8), (.int .i64 r9)]), (.bool ((decide (n0 < 0)) || (decide (n0 > 8)))), (.bool (decide ((len7 : Int) > 16))), .undef, .undef, .undef, .undef, .undef, .undef] H10 (by kernel_rfl) ?_
      refine then_norm ?_
      refine w_ret ?_
      refine then_ret ?_
      exact body_ret (vs := [(.agg [(.int .i64 r8), (.int .i64 r9)])]) _ (by kernel_rfl) rfl h
    · replace h := h.2 (is_dec.f hc)
      refine w_skip ?_
      refine then_norm ?_
      refine w_seq ?_
      refine w_seq ?_
      refine w_run [0] ?_
      refine t_done [(.int .i64 n0), l1, (.agg [(.int .i64 0), (.int .i64 0)]), (.bool ((decide (n0 < 0)) || (decide (n0 > 8)))), (.bool (decide ((len7 : Int) > 16))), (.int .i64 0), .undef, .undef, .undef, .undef, .undef] H2 (by kernel_rfl) ?_
      refine then_norm ?_
      refine w_block ?_
      obtain ⟨J12, k13, h0, h⟩ := h
      refine w_loop (I := fun mI EI HI => ∃ (v15 : Int) (v16 : Int) (i17 : Int) (d18 : AV) (d19 : AV) (d20 : AV) (d21 : AV) (d22 : AV), EI = [(.int .i64 n0), l1, (.agg [(.int .i64 v15), (.int .i64 v16)]), (.bool ((decide (n0 < 0)) || (decide (n0 > 8)))), (.bool (decide ((len7 : Int) > 16))), (.int .i64 i17), d18, d19, d20, d21, d22] ∧ J12 mI v15 v16 i17 HI) ?_ k13 ⟨_, _, _, _, _, _, _, _, rfl, h0⟩
      clear h0
      rintro m14 EI H23 ⟨v15, v16, i17, d18, d19, d20, d21, d22, rfl, hJ⟩
      replace h := h m14 v15 v16 i17 H23 hJ
      clear hJ
      refine w_seq ?_
      refine w_seq ?_
      refine w_run [0, 0, 1, 0] ?_
      obtain ⟨len24, hl, h⟩ := h
      refine t_len true l1 len24 H23 (by kernel_rfl) hl ?_
      refine t_done [(.int .i64 n0), l1, (.agg [(.int .i64 v15), (.int .i64 v16)]), (.bool ((decide (n0 < 0)) || (decide (n0 > 8)))), (.bool (decide ((len7 : Int) > 16))), (.int .i64 i17), (.bool (decide (i17 < (len24 : Int)))), d19, d20, d21, d22] H23 (by kernel_rfl) ?_
      refine then_norm ?_
      refine w_cond (t := (decide (i17 < (len24 : Int)))) rfl (fun hc => ?_) (fun hc => ?_)
      · replace h := h.1 (is_dec.t hc)
        refine w_skip ?_
        refine then_norm ?_
        refine w_seq ?_
        refine w_block ?_
        refine w_seq ?_
        refine w_seq ?_
        refine w_run [0, 0, 0, 1, 1, 1, 1, 0] ?_
        obtain ⟨e25, e26, hg27, h⟩ := h
        refine t_idxG true 3 l1 .i64 i17 H23 (by kernel_rfl) hg27 ?_
        refine t_fldG true 0 3 l1 i17 0 H23 (by kernel_rfl) hg27 ?_
        refine t_loadG true (some 2) 3 l1 i17 0 (.agg [(.int .i64 e25), e26]) H23 (by kernel_rfl) hg27 ?_
        refine t_call true nFRunCode [(.int .i64 n0), (.agg [(.int .i64 e25), e26])] H23 (by kernel_rfl) h ?_
        clear h
        rintro _ H29 ⟨r28, rfl, h⟩
        refine t_done [(.int .i64 n0), l1, (.agg [(.int .i64 v15), (.int .i64 v16)]), (.bool ((decide (n0 < 0)) || (decide (n0 > 8)))), (.bool (decide ((len7 : Int) > 16))), (.int .i64 i17), (.bool (decide (i17 < (len24 : Int)))), (.bool ((r28) != 0)), d20, d21, d22] H29 (by kernel_rfl) ?_
        refine then_norm ?_
        refine w_cond (t := ((r28) != 0)) rfl (fun hc => ?_) (fun hc => ?_)
        · replace h := h.1 (is_ne.t hc)
          refine w_seq ?_
          refine w_run [0, 0, 0, 1, 1, 1, 1, 0, 1, 1] ?_
          obtain ⟨e31, e32, hg33, h⟩ := h
          refine t_idxG true 3 l1 .i64 i17 H29 (by kernel_rfl) hg33 ?_
          refine t_fldG true 0 3 l1 i17 0 H29 (by kernel_rfl) hg33 ?_
          refine t_loadG true (some 2) 3 l1 i17 0 (.agg [(.int .i64 e31), e32]) H29 (by kernel_rfl) hg33 ?_
          refine t_call true nFRunCode [(.int .i64 n0), (.agg [(.int .i64 e31), e32])] H29 (by kernel_rfl) h ?_
          clear h
          rintro _ H35 ⟨r34, rfl, h⟩
          refine t_call true nFFault [(.int .i64 r34), (.int .i64 i17)] H35 (by kernel_rfl) h ?_
          clear h
          rintro _ H39 ⟨r37, r38, rfl, h⟩
          refine t_upd true 2 0 [(.int .i64 v15), (.int .i64 v16)] (.agg [(.int .i64 r37), (.int .i64 r38)]) [(.int .i64 r37), (.int .i64 r38)] [(.int .i64 r37), (.int .i64 r38)] H39 (by kernel_rfl) rfl (all_c rfl (all_c rfl all_n)) ⟨rfl, Nat.le_of_ble_eq_true (by kernel_rfl), rfl⟩ ?_
          refine t_done [(.int .i64 n0), l1, (.agg [(.int .i64 r37), (.int .i64 r38)]), (.bool ((decide (n0 < 0)) || (decide (n0 > 8)))), (.bool (decide ((len7 : Int) > 16))), (.int .i64 i17), (.bool (decide (i17 < (len24 : Int)))), (.bool ((r28) != 0)), d20, d21, d22] H39 (by kernel_rfl) ?_
          refine then_norm ?_
          refine w_ret ?_
          refine then_ret ?_
          refine block_ret ?_
          refine then_ret ?_
          refine loop_ret ?_
          refine block_ret ?_
          refine then_ret ?_
          exact body_ret (vs := [(.agg [(.int .i64 r37), (.int .i64 r38)])]) _ (by kernel_rfl) rfl h
        · replace h := h.2 (is_ne.f hc)
          refine w_skip ?_
          refine then_norm ?_
          refine w_seq ?_
          refine w_run [0] ?_
          refine t_done [(.int .i64 n0), l1, (.agg [(.int .i64 v15), (.int .i64 v16)]), (.bool ((decide (n0 < 0)) || (decide (n0 > 8)))), (.bool (decide ((len7 : Int) > 16))), (.int .i64 i17), (.bool (decide (i17 < (len24 : Int)))), (.bool ((r28) != 0)), (.int .i64 0), d21, d22] H29 (by kernel_rfl) ?_
          refine then_norm ?_
          refine w_block ?_
          obtain ⟨J41, k42, h0, h⟩ := h
          refine w_loop (I := fun mI EI HI => ∃ (v44 : Int) (v45 : Int) (k46 : Int) (d47 : AV) (d48 : AV), EI = [(.int .i64 n0), l1, (.agg [(.int .i64 v44), (.int .i64 v45)]), (.bool ((decide (n0 < 0)) || (decide (n0 > 8)))), (.bool (decide ((len7 : Int) > 16))), (.int .i64 i17), (.bool (decide (i17 < (len24 : Int)))), (.bool ((r28) != 0)), (.int .i64 k46), d47, d48] ∧ J41 mI v44 v45 k46 HI) ?_ k42 ⟨_, _, _, _, _, rfl, h0⟩
          clear h0
          rintro m43 EI H49 ⟨v44, v45, k46, d47, d48, rfl, hJ⟩
          replace h := h m43 v44 v45 k46 H49 hJ
          clear hJ
          refine w_seq ?_
          refine w_seq ?_
          refine w_run [0, 0, 0] ?_
          refine t_done [(.int .i64 n0), l1, (.agg [(.int .i64 v44), (.int .i64 v45)]), (.bool ((decide (n0 < 0)) || (decide (n0 > 8)))), (.bool (decide ((len7 : Int) > 16))), (.int .i64 i17), (.bool (decide (i17 < (len24 : Int)))), (.bool ((r28) != 0)), (.int .i64 k46), (.bool (decide (k46 < i17))), d48] H49 (by kernel_rfl) ?_
          refine then_norm ?_
          refine w_cond (t := (decide (k46 < i17))) rfl (fun hc => ?_) (fun hc => ?_)
          · replace h := h.1 (is_dec.t hc)
            refine w_skip ?_
            refine then_norm ?_
            refine w_seq ?_
            refine w_block ?_
            refine w_seq ?_
            refine w_run [0, 0, 1, 1, 1, 0, 0, 1, 1, 1, 1, 0, 0, 0, 3, 3, 3, 0, 0, 3, 3, 3, 2, 0] ?_
            obtain ⟨e50, e51, hg52, h⟩ := h
            refine t_idxG false 3 l1 .i64 i17 H49 (by kernel_rfl) hg52 ?_
            refine t_fldG false 0 3 l1 i17 0 H49 (by kernel_rfl) hg52 ?_
            refine t_loadG false (some 2) 3 l1 i17 0 (.agg [(.int .i64 e50), e51]) H49 (by kernel_rfl) hg52 ?_
            obtain ⟨e53, e54, hg55, h⟩ := h
            refine t_idxG false 3 l1 .i64 k46 H49 (by kernel_rfl) hg55 ?_
            refine t_fldG false 0 3 l1 k46 0 H49 (by kernel_rfl) hg55 ?_
            refine t_loadG false (some 2) 3 l1 k46 0 (.agg [(.int .i64 e53), e54]) H49 (by kernel_rfl) hg55 ?_
            refine t_call true nFEqualRuns [(.agg [(.int .i64 e50), e51]), (.agg [(.int .i64 e53), e54])] H49 (by kernel_rfl) h ?_
            clear h
            rintro _ H57 ⟨r56, rfl, h⟩
            refine t_gd r56 true (by kernel_rfl) (fun hc => ?_) (fun hc => ?_)
            · replace h := h.1 (is_raw.t hc)
              obtain ⟨e59, hg60, h⟩ := h
              refine t_idxG false 3 l1 .i64 i17 H57 (by kernel_rfl) hg60 ?_
              refine t_gd true true (by kernel_rfl) (fun _ => ?_) (fun hn => by cases hn)
              refine t_fldG false 2 3 l1 i17 0 H57 (by kernel_rfl) hg60 ?_
              refine t_gd true true (by kernel_rfl) (fun _ => ?_) (fun hn => by cases hn)
              refine t_loadG false none 3 l1 i17 2 (.bool e59) H57 (by kernel_rfl) hg60 ?_
              refine t_gd true true (by kernel_rfl) (fun _ => ?_) (fun hn => by cases hn)
              obtain ⟨e61, hg62, h⟩ := h
              refine t_idxG false 3 l1 .i64 k46 H57 (by kernel_rfl) hg62 ?_
              refine t_gd true true (by kernel_rfl) (fun _ => ?_) (fun hn => by cases hn)
              refine t_fldG false 2 3 l1 k46 0 H57 (by kernel_rfl) hg62 ?_
              refine t_gd true true (by kernel_rfl) (fun _ => ?_) (fun hn => by cases hn)
              refine t_loadG false none 3 l1 k46 2 (.bool e61) H57 (by kernel_rfl) hg62 ?_
              refine t_gd true true (by kernel_rfl) (fun _ => ?_) (fun hn => by cases hn)
              refine t_done [(.int .i64 n0), l1, (.agg [(.int .i64 v44), (.int .i64 v45)]), (.bool ((decide (n0 < 0)) || (decide (n0 > 8)))), (.bool (decide ((len7 : Int) > 16))), (.int .i64 i17), (.bool (decide (i17 < (len24 : Int)))), (.bool ((r28) != 0)), (.int .i64 k46), (.bool (decide (k46 < i17))), (.bool (!(e59 == e61)))] H57 (by kernel_rfl) ?_
              refine then_norm ?_
              refine w_cond (t := (!(e59 == e61))) rfl (fun hc => ?_) (fun hc => ?_)
              · replace h := h.1 ((is_not is_beq).t hc)
                refine w_seq ?_
                refine w_run [0, 1, 1] ?_
                refine t_call true nFFault [(.int .i64 19), (.int .i64 i17)] H57 (by kernel_rfl) h ?_
                clear h
                rintro _ H65 ⟨r63, r64, rfl, h⟩
                refine t_upd true 2 0 [(.int .i64 v44), (.int .i64 v45)] (.agg [(.int .i64 r63), (.int .i64 r64)]) [(.int .i64 r63), (.int .i64 r64)] [(.int .i64 r63), (.int .i64 r64)] H65 (by kernel_rfl) rfl (all_c rfl (all_c rfl all_n)) ⟨rfl, Nat.le_of_ble_eq_true (by kernel_rfl), rfl⟩ ?_
                refine t_done [(.int .i64 n0), l1, (.agg [(.int .i64 r63), (.int .i64 r64)]), (.bool ((decide (n0 < 0)) || (decide (n0 > 8)))), (.bool (decide ((len7 : Int) > 16))), (.int .i64 i17), (.bool (decide (i17 < (len24 : Int)))), (.bool ((r28) != 0)), (.int .i64 k46), (.bool (decide (k46 < i17))), (.bool (!(e59 == e61)))] H65 (by kernel_rfl) ?_
                refine then_norm ?_
                refine w_ret ?_
                refine block_ret ?_
                refine then_ret ?_
                refine loop_ret ?_
                refine block_ret ?_
                refine block_ret ?_
                refine then_ret ?_
                refine loop_ret ?_
                refine block_ret ?_
                refine then_ret ?_
                exact body_ret (vs := [(.agg [(.int .i64 r63), (.int .i64 r64)])]) _ (by kernel_rfl) rfl h
              · replace h := h.2 ((is_not is_beq).f hc)
                refine w_skip ?_
                refine block_norm ?_
                refine then_norm ?_
                refine w_run [0, 0, 0] ?_
                refine t_done [(.int .i64 n0), l1, (.agg [(.int .i64 v44), (.int .i64 v45)]), (.bool ((decide (n0 < 0)) || (decide (n0 > 8)))), (.bool (decide ((len7 : Int) > 16))), (.int .i64 i17), (.bool (decide (i17 < (len24 : Int)))), (.bool ((r28) != 0)), (.int .i64 (IntKind.wrap .i64 (k46 + 1))), (.bool (decide (k46 < i17))), (.bool (!(e59 == e61)))] H57 (by kernel_rfl) ?_
                obtain ⟨m', hm, h⟩ := h
                refine loop_norm ⟨m', hm, _, _, _, _, _, rfl, h⟩
            · replace h := h.2 (is_raw.f hc)
              refine t_gd false true (by kernel_rfl) (fun hn => by cases hn) (fun _ => ?_)
              refine t_gd false true (by kernel_rfl) (fun hn => by cases hn) (fun _ => ?_)
              refine t_gd false true (by kernel_rfl) (fun hn => by cases hn) (fun _ => ?_)
              refine t_gd false true (by kernel_rfl) (fun hn => by cases hn) (fun _ => ?_)
              refine t_gd false true (by kernel_rfl) (fun hn => by cases hn) (fun _ => ?_)
              refine t_gd false true (by kernel_rfl) (fun hn => by cases hn) (fun _ => ?_)
              refine t_done [(.int .i64 n0), l1, (.agg [(.int .i64 v44), (.int .i64 v45)]), (.bool ((decide (n0 < 0)) || (decide (n0 > 8)))), (.bool (decide ((len7 : Int) > 16))), (.int .i64 i17), (.bool (decide (i17 < (len24 : Int)))), (.bool ((r28) != 0)), (.int .i64 k46), (.bool (decide (k46 < i17))), (.bool false)] H57 (by kernel_rfl) ?_
              refine then_norm ?_
              refine w_cond (t := false) rfl (fun hc => by cases hc) (fun _ => ?_)
              refine w_skip ?_
              refine block_norm ?_
              refine then_norm ?_
              refine w_run [0, 0, 0] ?_
              refine t_done [(.int .i64 n0), l1, (.agg [(.int .i64 v44), (.int .i64 v45)]), (.bool ((decide (n0 < 0)) || (decide (n0 > 8)))), (.bool (decide ((len7 : Int) > 16))), (.int .i64 i17), (.bool (decide (i17 < (len24 : Int)))), (.bool ((r28) != 0)), (.int .i64 (IntKind.wrap .i64 (k46 + 1))), (.bool (decide (k46 < i17))), (.bool false)] H57 (by kernel_rfl) ?_
              obtain ⟨m', hm, h⟩ := h
              refine loop_norm ⟨m', hm, _, _, _, _, _, rfl, h⟩
          · replace h := h.2 (is_dec.f hc)
            refine w_exit ?_
            refine then_exit ?_
            refine loop_exit ?_
            refine block_exit ?_
            refine block_norm ?_
            refine then_norm ?_
            refine w_run [0, 0, 0] ?_
            refine t_done [(.int .i64 n0), l1, (.agg [(.int .i64 v44), (.int .i64 v45)]), (.bool ((decide (n0 < 0)) || (decide (n0 > 8)))), (.bool (decide ((len7 : Int) > 16))), (.int .i64 (IntKind.wrap .i64 (i17 + 1))), (.bool (decide (i17 < (len24 : Int)))), (.bool ((r28) != 0)), (.int .i64 k46), (.bool (decide (k46 < i17))), d48] H49 (by kernel_rfl) ?_
            obtain ⟨m', hm, h⟩ := h
            refine loop_norm ⟨m', hm, _, _, _, _, _, _, _, _, rfl, h⟩
      · replace h := h.2 (is_dec.f hc)
        refine w_exit ?_
        refine then_exit ?_
        refine loop_exit ?_
        refine block_exit ?_
        refine then_norm ?_
        refine w_seq ?_
        refine w_run [1, 1] ?_
        refine t_call true nFFault [(.int .i64 0), (.int .i64 0)] H23 (by kernel_rfl) h ?_
        clear h
        rintro _ H72 ⟨r70, r71, rfl, h⟩
        refine t_upd true 2 0 [(.int .i64 v15), (.int .i64 v16)] (.agg [(.int .i64 r70), (.int .i64 r71)]) [(.int .i64 r70), (.int .i64 r71)] [(.int .i64 r70), (.int .i64 r71)] H72 (by kernel_rfl) rfl (all_c rfl (all_c rfl all_n)) ⟨rfl, Nat.le_of_ble_eq_true (by kernel_rfl), rfl⟩ ?_
        refine t_done [(.int .i64 n0), l1, (.agg [(.int .i64 r70), (.int .i64 r71)]), (.bool ((decide (n0 < 0)) || (decide (n0 > 8)))), (.bool (decide ((len7 : Int) > 16))), (.int .i64 i17), (.bool (decide (i17 < (len24 : Int)))), d19, d20, d21, d22] H72 (by kernel_rfl) ?_
        refine then_norm ?_
        refine w_ret ?_
        exact body_ret (vs := [(.agg [(.int .i64 r70), (.int .i64 r71)])]) _ (by kernel_rfl) rfl h

def rf_FEqualRuns (nFEqualInts : Nat) : RFunc := ⟨2, 5, [.var 2],
 ((.seq (.ops [⟨.tomb 1 (.var 0), none, (some 3), true⟩, ⟨.tomb 1 (.var 1), none, (some 4), true⟩, ⟨.move (.k (.bool false)), none, (some 2), true⟩])
 ((.seq (.ops [⟨.field 0 none (.var 3), none, none, true⟩, ⟨.field 0 none (.var 3), none, none, true⟩, ⟨.field 0 none (.var 4), none, none, true⟩, ⟨.field 0 none (.var 4), none, none, true⟩, ⟨.bin .eql .no (.loc 1) (.loc 3), none, none, true⟩, ⟨.move (.loc 4), none, none, true⟩, ⟨.field 0 none (.var 3), none, none, true⟩, ⟨.field 1 none (.var 3), none, none, true⟩, ⟨.field 0 none (.var 4), none, none, true⟩, ⟨.field 1 none (.var 4), none, none, true⟩, ⟨.callS nFEqualInts [(.loc 7), (.loc 9)], (some (5, true)), none, true⟩, ⟨.pick (.loc 5) (.loc 10) (.k (.bool false)), none, none, true⟩, ⟨.move (.loc 11), none, (some 2), true⟩])
 (.ret))))), none⟩
theorem v_FEqualRuns {F : Nat → Option RFunc} {me nFEqualInts : Nat} (hF : F me = some (rf_FEqualRuns nFEqualInts)) {fl : Nat} {H : Heap} {Q : AV → Heap → Prop} (a0 : Int) (a1 : AV) (b2 : Int) (b3 : AV)
  (h : ∀ (H4 : Heap), Dead1 H 1 H4 → ∀ (H5 : Heap), Dead1 H4 1 H5 → ((a0 = b2) → Ret F fl nFEqualInts [a1, b3] H5 (fun v8 H7 => ∃ (r6 : Bool), v8 = (.bool r6) ∧ Q (.bool r6) H7)) ∧ (¬(a0 = b2) → Q (.bool false) H5)) : Ret F fl me [(.agg [(.int .i64 a0), a1]), (.agg [(.int .i64 b2), b3])] H Q := by
  refine ret_intro hF rfl ?_
  refine w_seq ?_
  refine w_run [1, 1, 0] ?_
  obtain ⟨H4, hb⟩ : ∃ H', Dead1 H 1 H' := ⟨_, ⟨rfl⟩⟩
  replace h := h H4 hb
  refine t_tomb true 1 (.agg [(.int .i64 a0), a1]) [(.int .i64 a0), a1] H4 H (by kernel_rfl) rfl hb ?_
  obtain ⟨H5, hb⟩ : ∃ H', Dead1 H4 1 H' := ⟨_, ⟨rfl⟩⟩
  replace h := h H5 hb
  refine t_tomb true 1 (.agg [(.int .i64 b2), b3]) [(.int .i64 b2), b3] H5 H4 (by kernel_rfl) rfl hb ?_
  refine t_done [(.agg [(.int .i64 a0), a1]), (.agg [(.int .i64 b2), b3]), (.bool false), (.agg [(.int .i64 a0), a1]), (.agg [(.int .i64 b2), b3])] H5 (by kernel_rfl) ?_
  refine then_norm ?_
  refine w_seq ?_
  refine w_run [0, 0, 0, 0, 0, 0, 0, 0, 0, 0, 3, 0, 0] ?_
  refine t_gd ((a0) == b2) true (by kernel_rfl) (fun hc => ?_) (fun hc => ?_)
  · replace h := h.1 (is_eq.t hc)
    refine t_call true nFEqualInts [a1, b3] H5 (by kernel_rfl) h ?_
    clear h
    rintro _ H7 ⟨r6, rfl, h⟩
    refine t_done [(.agg [(.int .i64 a0), a1]), (.agg [(.int .i64 b2), b3]), (.bool r6), (.agg [(.int .i64 a0), a1]), (.agg [(.int .i64 b2), b3])] H7 (by kernel_rfl) ?_
    refine then_norm ?_
    refine w_ret ?_
    exact body_ret (vs := [(.bool r6)]) _ (by kernel_rfl) rfl h
  · replace h := h.2 (is_eq.f hc)
    refine t_done [(.agg [(.int .i64 a0), a1]), (.agg [(.int .i64 b2), b3]), (.bool false), (.agg [(.int .i64 a0), a1]), (.agg [(.int .i64 b2), b3])] H5 (by kernel_rfl) ?_
    refine then_norm ?_
    refine w_ret ?_
    exact body_ret (vs := [(.bool false)]) _ (by kernel_rfl) rfl h

def rf_FDecide (nFEqualRuns nFDecide : Nat) : RFunc := ⟨4, 11, [.var 4, .var 5],
 ((.seq (.ops [⟨.move (.k (.empty)), none, (some 4), true⟩, ⟨.move (.k (.empty)), none, (some 5), true⟩])
 ((.seq (.ops [⟨.move (.var 2), none, none, true⟩, ⟨.len (.loc 0), none, none, true⟩, ⟨.move (.var 3), none, none, true⟩, ⟨.len (.loc 2), none, none, true⟩, ⟨.bin .add .no (.loc 1) (.loc 3), none, none, true⟩, ⟨.move (.var 2), none, none, true⟩, ⟨.build [.int .i64 0, .empty] [(0, 1, (.loc 4)), (1, 1, (.loc 5))], none, none, true⟩, ⟨.tomb 1 (.k (.agg [.int .i64 0, .empty])), none, (some 7), true⟩, ⟨.upd 2 0 (.loc 7) (.loc 6), none, (some 7), true⟩])
 ((.seq ((.seq (.ops [⟨.move (.k (.int .i64 0)), none, (some 6), true⟩])
 (.block 0 (.loop ((.seq ((.seq (.ops [⟨.move (.var 6), none, none, true⟩, ⟨.move (.var 1), none, none, true⟩, ⟨.len (.loc 1), none, none, true⟩, ⟨.bin .lss .no (.loc 0) (.loc 2), none, none, true⟩, ⟨.move (.loc 3), none, none, true⟩, ⟨.field 0 none (.var 7), none, none, true⟩, ⟨.field 0 none (.var 7), none, none, true⟩, ⟨.move (.var 0), none, none, true⟩, ⟨.bin .lss .no (.loc 6) (.loc 7), none, none, true⟩, ⟨.pick (.loc 4) (.loc 8) (.k (.bool false)), none, (some 8), true⟩])
 (.cond (.var 8) (.skip) (.exit 0))))
 ((.seq (.block 1 ((.seq (.ops [⟨.move (.var 1), none, none, false⟩, ⟨.move (.var 6), none, none, false⟩, ⟨.indexAddr 3 (.loc 0) (.loc 1), none, none, false⟩, ⟨.fieldAddr 0 (.loc 2), none, none, false⟩, ⟨.load (some 2) (.loc 3), none, none, false⟩, ⟨.field 0 (some 2) (.var 7), none, none, false⟩, ⟨.callS nFEqualRuns [(.loc 4), (.loc 5)], none, (some 9), true⟩])
 (.cond (.var 9) ((.seq ((.seq (.ops [⟨.move (.var 1), none, none, true⟩, ⟨.move (.var 6), none, none, true⟩, ⟨.indexAddr 3 (.loc 0) (.loc 1), none, none, true⟩, ⟨.fieldAddr 2 (.loc 2), none, none, true⟩, ⟨.load none (.loc 3), none, (some 10), true⟩])
 (.cond (.var 10) ((.seq (.ops [⟨.move (.var 0), none, none, false⟩, ⟨.move (.var 1), none, none, false⟩, ⟨.move (.var 2), none, none, false⟩, ⟨.append 1 8 (.k (.empty)) (.loc 2), none, none, false⟩, ⟨.field 0 none (.var 7), none, none, false⟩, ⟨.field 0 none (.var 7), none, none, false⟩, ⟨.buildSlice 1 [.int .i64 0] [(0, 1, (.loc 5))] 1, none, none, false⟩, ⟨.append 1 8 (.loc 3) (.loc 6), none, none, true⟩, ⟨.move (.var 3), none, none, false⟩, ⟨.callS nFDecide [(.loc 0), (.loc 1), (.loc 7), (.loc 8)], none, none, true⟩, ⟨.extract (.loc 9) 0, none, none, true⟩, ⟨.extract (.loc 9) 1, none, none, true⟩, ⟨.move (.loc 10), none, (some 4), true⟩, ⟨.move (.loc 11), none, (some 5), true⟩])
 (.ret))) (.skip))))
 ((.seq (.ops [⟨.move (.var 0), none, none, false⟩, ⟨.move (.var 1), none, none, false⟩, ⟨.move (.var 2), none, none, false⟩, ⟨.move (.var 3), none, none, false⟩, ⟨.append 1 8 (.k (.empty)) (.loc 3), none, none, false⟩, ⟨.field 0 none (.var 7), none, none, false⟩, ⟨.field 0 none (.var 7), none, none, false⟩, ⟨.buildSlice 1 [.int .i64 0] [(0, 1, (.loc 6))] 1, none, none, false⟩, ⟨.append 1 8 (.loc 4) (.loc 7), none, none, true⟩, ⟨.callS nFDecide [(.loc 0), (.loc 1), (.loc 2), (.loc 8)], none, none, true⟩, ⟨.extract (.loc 9) 0, none, none, true⟩, ⟨.extract (.loc 9) 1, none, none, true⟩, ⟨.move (.loc 10), none, (some 4), true⟩, ⟨.move (.loc 11), none, (some 5), true⟩])
 (.ret))))) (.skip)))))
 (.ops [⟨.move (.var 6), none, none, true⟩, ⟨.bin .add .no (.loc 0) (.k (.int .i64 1)), none, none, true⟩, ⟨.move (.loc 1), none, (some 6), true⟩])))))))))
 ((.seq (.ops [⟨.move (.var 2), none, none, true⟩, ⟨.move (.var 3), none, none, true⟩, ⟨.move (.loc 0), none, (some 4), true⟩, ⟨.move (.loc 1), none, (some 5), true⟩])
 (.ret))))))))), none⟩
theorem v_FDecide {F : Nat → Option RFunc} {me nFEqualRuns nFDecide : Nat} (hF : F me = some (rf_FDecide nFEqualRuns nFDecide)) {fl : Nat} {H : Heap} {Q : AV → Heap → Prop} (n0 : Int) (l1 : AV) (landed2 : AV) (rejected3 : AV)
  (h : ∃ len4 : Nat, lenA landed2 = some len4 ∧ ∃ len5 : Nat, lenA rejected3 = some len5 ∧ Scal landed2 ∧ ∀ (H7 : Heap), Dead1 H 1 H7 → ∃ (J8 : Nat → Int → Heap → Prop) (k9 : Nat), J8 k9 0 H7 ∧ (∀ (m10 : Nat) (i13 : Int) (H17 : Heap), J8 m10 i13 H17 → ∃ len18 : Nat, lenA l1 = some len18 ∧ ((((i13 < (len18 : Int)) ∧ ((IntKind.wrap .i64 ((len4 : Int) + (len5 : Int))) < n0))) → ∃ (e19 : Int) (e20 : AV), getA H17 3 (some 2) l1 i13 0 = some (.agg [(.int .i64 e19), e20]) ∧ Ret F fl nFEqualRuns [(.agg [(.int .i64 e19), e20]), (.agg [(.int .i64 (IntKind.wrap .i64 ((len4 : Int) + (len5 : Int)))), landed2])] H17 (fun v24 H23 => ∃ (r22 : Bool), v24 = (.bool r22) ∧ ((r22 = true) → ∃ (v25 : Bool), getA H23 3 none l1 i13 2 = some (.bool v25) ∧ ((v25 = true) → ∃ (a27 : AV) (H28 : Heap), appA fl false 1 8 H23 .empty landed2 = some (a27, H28) ∧ ∀ (b29 : Nat) (H30 : Heap), NewB H28 1 [(.int .i64 (IntKind.wrap .i64 ((len4 : Int) + (len5 : Int))))] b29 H30 → ∃ (a31 : AV) (H32 : Heap), appA fl true 1 8 H30 a27 (.slice b29 0 1 (some 1)) = some (a31, H32) ∧ Ret F fl nFDecide [(.int .i64 n0), l1, a31, rejected3] H32 (fun v36 H35 => ∃ (r33 : AV) (r34 : AV), v36 = (.tuple [r33, r34]) ∧ Q (.tuple [r33, r34]) H35)) ∧ (¬(v25 = true) → ∃ (a37 : AV) (H38 : Heap), appA fl false 1 8 H23 .empty rejected3 = some (a37, H38) ∧ ∀ (b39 : Nat) (H40 : Heap), NewB H38 1 [(.int .i64 (IntKind.wrap .i64 ((len4 : Int) + (len5 : Int))))] b39 H40 → ∃ (a41 : AV) (H42 : Heap), appA fl true 1 8 H40 a37 (.slice b39 0 1 (some 1)) = some (a41, H42) ∧ Ret F fl nFDecide [(.int .i64 n0), l1, landed2, a41] H42 (fun v46 H45 => ∃ (r43 : AV) (r44 : AV), v46 = (.tuple [r43, r44]) ∧ Q (.tuple [r43, r44]) H45))) ∧ (¬(r22 = true) → ∃ m47 : Nat, m47 < m10 ∧ J8 m47 (IntKind.wrap .i64 (i13 + 1)) H23))) ∧ (¬(((i13 < (len18 : Int)) ∧ ((IntKind.wrap .i64 ((len4 : Int) + (len5 : Int))) < n0))) → Q (.tuple [landed2, rejected3]) H17))) : Ret F fl me [(.int .i64 n0), l1, landed2, rejected3] H Q := by
  refine ret_intro hF rfl ?_
  refine w_seq ?_
  refine w_run [0, 0] ?_
  refine t_done [(.int .i64 n0), l1, landed2, rejected3, .empty, .empty, .undef, .undef, .undef, .undef, .undef] H (by kernel_rfl) ?_
  refine then_norm ?_
  refine w_seq ?_
  refine w_run [0, 1, 0, 1, 0, 0, 1, 1, 1] ?_
  obtain ⟨len4, hl, h⟩ := h
  refine t_len true landed2 len4 H (by kernel_rfl) hl ?_
  obtain ⟨len5, hl, h⟩ := h
  refine t_len true rejected3 len5 H (by kernel_rfl) hl ?_
  obtain ⟨hs6, h⟩ := h
  refine t_build true [(.int .i64 0), .empty] [(0, 1, .loc 0), (1, 1, .loc 1)] [(.int .i64 (IntKind.wrap .i64 ((len4 : Int) + (len5 : Int)))), landed2] [(.int .i64 (IntKind.wrap .i64 ((len4 : Int) + (len5 : Int)))), landed2] H (by kernel_rfl) (fill_c (vs := [(.int .i64 (IntKind.wrap .i64 ((len4 : Int) + (len5 : Int))))]) (size := 1) rfl (by kernel_rfl) (by kernel_rfl) (fill_c (vs := [landed2]) (size := 1) hs6.1 (by kernel_rfl) (by kernel_rfl) (by kernel_rfl))) ?_
  obtain ⟨H7, hb⟩ : ∃ H', Dead1 H 1 H' := ⟨_, ⟨rfl⟩⟩
  replace h := h H7 hb
  refine t_tomb true 1 (.agg [(.int .i64 0), .empty]) [(.int .i64 0), .empty] H7 H (by kernel_rfl) rfl hb ?_
  refine t_upd true 2 0 [(.int .i64 0), .empty] (.agg [(.int .i64 (IntKind.wrap .i64 ((len4 : Int) + (len5 : Int)))), landed2]) [(.int .i64 (IntKind.wrap .i64 ((len4 : Int) + (len5 : Int)))), landed2] [(.int .i64 (IntKind.wrap .i64 ((len4 : Int) + (len5 : Int)))), landed2] H7 (by kernel_rfl) rfl (all_c rfl (all_c hs6.2 all_n)) ⟨rfl, Nat.le_of_ble_eq_true (by kernel_rfl), rfl⟩ ?_
  refine t_done [(.int .i64 n0), l1, landed2, rejected3, .empty, .empty, .undef, (.agg [(.int .i64 (IntKind.wrap .i64 ((len4 : Int) + (len5 : Int)))), landed2]), .undef, .undef, .undef] H7 (by kernel_rfl) ?_
  refine then_norm ?_
  refine w_seq ?_
  refine w_seq ?_
  refine w_run [0] ?_
  refine t_done [(.int .i64 n0), l1, landed2, rejected3, .empty, .empty, (.int .i64 0), (.agg [(.int .i64 (IntKind.wrap .i64 ((len4 : Int) + (len5 : Int)))), landed2]), .undef, .undef, .undef] H7 (by kernel_rfl) ?_
  refine then_norm ?_
  refine w_block ?_
  obtain ⟨J8, k9, h0, h⟩ := h
  refine w_loop (I := fun mI EI HI => ∃ (d11 : AV) (d12 : AV) (i13 : Int) (d14 : AV) (d15 : AV) (d16 : AV), EI = [(.int .i64 n0), l1, landed2, rejected3, d11, d12, (.int .i64 i13), (.agg [(.int .i64 (IntKind.wrap .i64 ((len4 : Int) + (len5 : Int)))), landed2]), d14, d15, d16] ∧ J8 mI i13 HI) ?_ k9 ⟨_, _, _, _, _, _, rfl, h0⟩
  clear h0
  rintro m10 EI H17 ⟨d11, d12, i13, d14, d15, d16, rfl, hJ⟩
  replace h := h m10 i13 H17 hJ
  clear hJ
  refine w_seq ?_
  refine w_seq ?_
  refine w_run [0, 0, 1, 0, 0, 0, 0, 0, 0, 0] ?_
  obtain ⟨len18, hl, h⟩ := h
  refine t_len true l1 len18 H17 (by kernel_rfl) hl ?_
  refine t_done [(.int .i64 n0), l1, landed2, rejected3, d11, d12, (.int .i64 i13), (.agg [(.int .i64 (IntKind.wrap .i64 ((len4 : Int) + (len5 : Int)))), landed2]), (.bool ((decide (i13 < (len18 : Int))) && (decide ((IntKind.wrap .i64 ((len4 : Int) + (len5 : Int))) < n0)))), d15, d16] H17 (by kernel_rfl) ?_
  refine then_norm ?_
  refine w_cond (t := ((decide (i13 < (len18 : Int))) && (decide ((IntKind.wrap .i64 ((len4 : Int) + (len5 : Int))) < n0)))) rfl (fun hc => ?_) (fun hc => ?_)
  · replace h := h.1 ((is_and is_dec is_dec).t hc)
    refine w_skip ?_
    refine then_norm ?_
    refine w_seq ?_
    refine w_block ?_
    refine w_seq ?_
    refine w_run [0, 0, 1, 1, 1, 0, 1] ?_
    obtain ⟨e19, e20, hg21, h⟩ := h
    refine t_idxG false 3 l1 .i64 i13 H17 (by kernel_rfl) hg21 ?_
    refine t_fldG false 0 3 l1 i13 0 H17 (by kernel_rfl) hg21 ?_
    refine t_loadG false (some 2) 3 l1 i13 0 (.agg [(.int .i64 e19), e20]) H17 (by kernel_rfl) hg21 ?_
    refine t_call true nFEqualRuns [(.agg [(.int .i64 e19), e20]), (.agg [(.int .i64 (IntKind.wrap .i64 ((len4 : Int) + (len5 : Int)))), landed2])] H17 (by kernel_rfl) h ?_
    clear h
    rintro _ H23 ⟨r22, rfl, h⟩
    refine t_done [(.int .i64 n0), l1, landed2, rejected3, d11, d12, (.int .i64 i13), (.agg [(.int .i64 (IntKind.wrap .i64 ((len4 : Int) + (len5 : Int)))), landed2]), (.bool ((decide (i13 < (len18 : Int))) && (decide ((IntKind.wrap .i64 ((len4 : Int) + (len5 : Int))) < n0)))), (.bool r22), d16] H23 (by kernel_rfl) ?_
    refine then_norm ?_
    refine w_cond (t := r22) rfl (fun hc => ?_) (fun hc => ?_)
    · replace h := h.1 (is_raw.t hc)
      refine w_seq ?_
      refine w_seq ?_
      refine w_run [0, 0, 1, 1, 1] ?_
      obtain ⟨v25, hg26, h⟩ := h
      refine t_idxG true 3 l1 .i64 i13 H23 (by kernel_rfl) hg26 ?_
      refine t_fldG true 2 3 l1 i13 0 H23 (by kernel_rfl) hg26 ?_
      refine t_loadG true none 3 l1 i13 2 (.bool v25) H23 (by kernel_rfl) hg26 ?_
      refine t_done [(.int .i64 n0), l1, landed2, rejected3, d11, d12, (.int .i64 i13), (.agg [(.int .i64 (IntKind.wrap .i64 ((len4 : Int) + (len5 : Int)))), landed2]), (.bool ((decide (i13 < (len18 : Int))) && (decide ((IntKind.wrap .i64 ((len4 : Int) + (len5 : Int))) < n0)))), (.bool r22), (.bool v25)] H23 (by kernel_rfl) ?_
      refine then_norm ?_
      refine w_cond (t := v25) rfl (fun hc => ?_) (fun hc => ?_)
      · replace h := h.1 (is_raw.t hc)
        refine w_seq ?_
        refine w_run [0, 0, 0, 1, 0, 0, 1, 1, 0, 1, 0, 0, 0, 0] ?_
        obtain ⟨a27, H28, ha, h⟩ := h
        refine t_app false 1 8 .empty landed2 a27 H28 H23 (by kernel_rfl) ha ?_
        obtain ⟨b29, H30, hb⟩ : ∃ b H', NewB H28 1 [(.int .i64 (IntKind.wrap .i64 ((len4 : Int) + (len5 : Int))))] b H' := ⟨_, _, rfl, rfl⟩
        replace h := h b29 H30 hb
        refine t_bs false 1 [(.int .i64 0)] [(0, 1, .loc 0)] 1 [(.int .i64 (IntKind.wrap .i64 ((len4 : Int) + (len5 : Int))))] [(.int .i64 (IntKind.wrap .i64 ((len4 : Int) + (len5 : Int))))] b29 H30 H28 (by kernel_rfl) (fill_c (vs := [(.int .i64 (IntKind.wrap .i64 ((len4 : Int) + (len5 : Int))))]) (size := 1) rfl (by kernel_rfl) (by kernel_rfl) (by kernel_rfl)) hb ?_
        obtain ⟨a31, H32, ha, h⟩ := h
        refine t_app true 1 8 a27 (.slice b29 0 1 (some 1)) a31 H32 H30 (by kernel_rfl) ha ?_
        refine t_call true nFDecide [(.int .i64 n0), l1, a31, rejected3] H32 (by kernel_rfl) h ?_
        clear h
        rintro _ H35 ⟨r33, r34, rfl, h⟩
        refine t_done [(.int .i64 n0), l1, landed2, rejected3, r33, r34, (.int .i64 i13), (.agg [(.int .i64 (IntKind.wrap .i64 ((len4 : Int) + (len5 : Int)))), landed2]), (.bool ((decide (i13 < (len18 : Int))) && (decide ((IntKind.wrap .i64 ((len4 : Int) + (len5 : Int))) < n0)))), (.bool r22), (.bool v25)] H35 (by kernel_rfl) ?_
        refine then_norm ?_
        refine w_ret ?_
        refine then_ret ?_
        refine block_ret ?_
        refine then_ret ?_
        refine loop_ret ?_
        refine block_ret ?_
        refine then_ret ?_
        exact body_ret (vs := [r33, r34]) _ (by kernel_rfl) rfl h
      · replace h := h.2 (is_raw.f hc)
        refine w_skip ?_
        refine then_norm ?_
        refine w_seq ?_
        refine w_run [0, 0, 0, 0, 1, 0, 0, 1, 1, 1, 0, 0, 0, 0] ?_
        obtain ⟨a37, H38, ha, h⟩ := h
        refine t_app false 1 8 .empty rejected3 a37 H38 H23 (by kernel_rfl) ha ?_
        obtain ⟨b39, H40, hb⟩ : ∃ b H', NewB H38 1 [(.int .i64 (IntKind.wrap .i64 ((len4 : Int) + (len5 : Int))))] b H' := ⟨_, _, rfl, rfl⟩
        replace h := h b39 H40 hb
        refine t_bs false 1 [(.int .i64 0)] [(0, 1, .loc 0)] 1 [(.int .i64 (IntKind.wrap .i64 ((len4 : Int) + (len5 : Int))))] [(.int .i64 (IntKind.wrap .i64 ((len4 : Int) + (len5 : Int))))] b39 H40 H38 (by kernel_rfl) (fill_c (vs := [(.int .i64 (IntKind.wrap .i64 ((len4 : Int) + (len5 : Int))))]) (size := 1) rfl (by kernel_rfl) (by kernel_rfl) (by kernel_rfl)) hb ?_
        obtain ⟨a41, H42, ha, h⟩ := h
        refine t_app true 1 8 a37 (.slice b39 0 1 (some 1)) a41 H42 H40 (by kernel_rfl) ha ?_
        refine t_call true nFDecide [(.int .i64 n0), l1, landed2, a41] H42 (by kernel_rfl) h ?_
        clear h
        rintro _ H45 ⟨r43, r44, rfl, h⟩
        refine t_done [(.int .i64 n0), l1, landed2, rejected3, r43, r44, (.int .i64 i13), (.agg [(.int .i64 (IntKind.wrap .i64 ((len4 : Int) + (len5 : Int)))), landed2]), (.bool ((decide (i13 < (len18 : Int))) && (decide ((IntKind.wrap .i64 ((len4 : Int) + (len5 : Int))) < n0)))), (.bool r22), (.bool v25)] H45 (by kernel_rfl) ?_
        refine then_norm ?_
        refine w_ret ?_
        refine block_ret ?_
        refine then_ret ?_
        refine loop_ret ?_
        refine block_ret ?_
        refine then_ret ?_
        exact body_ret (vs := [r43, r44]) _ (by kernel_rfl) rfl h
    · replace h := h.2 (is_raw.f hc)
      refine w_skip ?_
      refine block_norm ?_
      refine then_norm ?_
      refine w_run [0, 0, 0] ?_
      refine t_done [(.int .i64 n0), l1, landed2, rejected3, d11, d12, (.int .i64 (IntKind.wrap .i64 (i13 + 1))), (.agg [(.int .i64 (IntKind.wrap .i64 ((len4 : Int) + (len5 : Int)))), landed2]), (.bool ((decide (i13 < (len18 : Int))) && (decide ((IntKind.wrap .i64 ((len4 : Int) + (len5 : Int))) < n0)))), (.bool r22), d16] H23 (by kernel_rfl) ?_
      obtain ⟨m', hm, h⟩ := h
      refine loop_norm ⟨m', hm, _, _, _, _, _, _, rfl, h⟩
  · replace h := h.2 ((is_and is_dec is_dec).f hc)
    refine w_exit ?_
    refine then_exit ?_
    refine loop_exit ?_
    refine block_exit ?_
    refine then_norm ?_
    refine w_seq ?_
    refine w_run [0, 0, 0, 0] ?_
    refine t_done [(.int .i64 n0), l1, landed2, rejected3, landed2, rejected3, (.int .i64 i13), (.agg [(.int .i64 (IntKind.wrap .i64 ((len4 : Int) + (len5 : Int)))), landed2]), (.bool ((decide (i13 < (len18 : Int))) && (decide ((IntKind.wrap .i64 ((len4 : Int) + (len5 : Int))) < n0)))), d15, d16] H17 (by kernel_rfl) ?_
    refine then_norm ?_
    refine w_ret ?_
    exact body_ret (vs := [landed2, rejected3]) _ (by kernel_rfl) rfl h

def rf_FUpto : RFunc := ⟨2, 7, [.var 2],
 ((.seq (.ops [⟨.move (.k (.empty)), none, (some 2), true⟩])
 ((.seq (.ops [⟨.move (.k (.empty)), none, (some 6), true⟩])
 ((.seq ((.seq (.ops [⟨.move (.k (.int .i64 0)), none, (some 3), true⟩])
 (.block 0 (.loop ((.seq ((.seq (.ops [⟨.move (.var 3), none, none, true⟩, ⟨.move (.var 0), none, none, true⟩, ⟨.len (.loc 1), none, none, true⟩, ⟨.bin .lss .no (.loc 0) (.loc 2), none, (some 4), true⟩])
 (.cond (.var 4) (.skip) (.exit 0))))
 ((.seq (.block 1 ((.seq (.ops [⟨.move (.var 0), none, none, true⟩, ⟨.move (.var 3), none, none, true⟩, ⟨.indexAddr 1 (.loc 0) (.loc 1), none, none, true⟩, ⟨.load none (.loc 2), none, none, true⟩, ⟨.move (.var 1), none, none, true⟩, ⟨.bin .lss .no (.loc 3) (.loc 4), none, (some 5), true⟩])
 (.cond (.var 5) (.ops [⟨.move (.var 6), none, none, true⟩, ⟨.move (.var 0), none, none, true⟩, ⟨.move (.var 3), none, none, true⟩, ⟨.indexAddr 1 (.loc 1) (.loc 2), none, none, true⟩, ⟨.load none (.loc 3), none, none, true⟩, ⟨.buildSlice 1 [.int .i64 0] [(0, 1, (.loc 4))] 1, none, none, true⟩, ⟨.append 1 8 (.loc 0) (.loc 5), none, none, true⟩, ⟨.move (.loc 6), none, (some 6), true⟩]) (.skip)))))
 (.ops [⟨.move (.var 3), none, none, true⟩, ⟨.bin .add .no (.loc 0) (.k (.int .i64 1)), none, none, true⟩, ⟨.move (.loc 1), none, (some 3), true⟩])))))))))
 ((.seq (.ops [⟨.move (.var 6), none, none, true⟩, ⟨.move (.loc 0), none, (some 2), true⟩])
 (.ret))))))))), none⟩
theorem v_FUpto {F : Nat → Option RFunc} {me : Nat} (hF : F me = some (rf_FUpto )) {fl : Nat} {H : Heap} {Q : AV → Heap → Prop} (l0 : AV) (n1 : Int)
  (h : ∃ (J2 : Nat → Int → AV → Heap → Prop) (k3 : Nat), J2 k3 0 .empty H ∧ (∀ (m4 : Nat) (i5 : Int) (out8 : AV) (H9 : Heap), J2 m4 i5 out8 H9 → ∃ len10 : Nat, lenA l0 = some len10 ∧ ((i5 < (len10 : Int)) → ∃ (e11 : Int), getA H9 1 none l0 i5 0 = some (.int .i64 e11) ∧ ((e11 < n1) → ∃ (e13 : Int), getA H9 1 none l0 i5 0 = some (.int .i64 e13) ∧ ∀ (b15 : Nat) (H16 : Heap), NewB H9 1 [(.int .i64 e13)] b15 H16 → ∃ (a17 : AV) (H18 : Heap), appA fl true 1 8 H16 out8 (.slice b15 0 1 (some 1)) = some (a17, H18) ∧ ∃ m19 : Nat, m19 < m4 ∧ J2 m19 (IntKind.wrap .i64 (i5 + 1)) a17 H18) ∧ (¬(e11 < n1) → ∃ m20 : Nat, m20 < m4 ∧ J2 m20 (IntKind.wrap .i64 (i5 + 1)) out8 H9)) ∧ (¬(i5 < (len10 : Int)) → Q out8 H9))) : Ret F fl me [l0, (.int .i64 n1)] H Q := by
  refine ret_intro hF rfl ?_
  refine w_seq ?_
  refine w_run [0] ?_
  refine t_done [l0, (.int .i64 n1), .empty, .undef, .undef, .undef, .undef] H (by kernel_rfl) ?_
  refine then_norm ?_
  refine w_seq ?_
  refine w_run [0] ?_
  refine t_done [l0, (.int .i64 n1), .empty, .undef, .undef, .undef, .empty] H (by kernel_rfl) ?_
  refine then_norm ?_
  refine w_seq ?_
  refine w_seq ?_
  refine w_run [0] ?_
  refine t_done [l0, (.int .i64 n1), .empty, (.int .i64 0), .undef, .undef, .empty] H (by kernel_rfl) ?_
  refine then_norm ?_
  refine w_block ?_
  obtain ⟨J2, k3, h0, h⟩ := h
  refine w_loop (I := fun mI EI HI => ∃ (i5 : Int) (d6 : AV) (d7 : AV) (out8 : AV), EI = [l0, (.int .i64 n1), .empty, (.int .i64 i5), d6, d7, out8] ∧ J2 mI i5 out8 HI) ?_ k3 ⟨_, _, _, _, rfl, h0⟩
  clear h0
  rintro m4 EI H9 ⟨i5, d6, d7, out8, rfl, hJ⟩
  replace h := h m4 i5 out8 H9 hJ
  clear hJ
  refine w_seq ?_
  refine w_seq ?_
  refine w_run [0, 0, 1, 0] ?_
  obtain ⟨len10, hl, h⟩ := h
  refine t_len true l0 len10 H9 (by kernel_rfl) hl ?_
  refine t_done [l0, (.int .i64 n1), .empty, (.int .i64 i5), (.bool (decide (i5 < (len10 : Int)))), d7, out8] H9 (by kernel_rfl) ?_
  refine then_norm ?_
  refine w_cond (t := (decide (i5 < (len10 : Int)))) rfl (fun hc => ?_) (fun hc => ?_)
  · replace h := h.1 (is_dec.t hc)
    refine w_skip ?_
    refine then_norm ?_
    refine w_seq ?_
    refine w_block ?_
    refine w_seq ?_
    refine w_run [0, 0, 1, 1, 0, 0] ?_
    obtain ⟨e11, hg12, h⟩ := h
    refine t_idxG true 1 l0 .i64 i5 H9 (by kernel_rfl) hg12 ?_
    refine t_loadG true none 1 l0 i5 0 (.int .i64 e11) H9 (by kernel_rfl) hg12 ?_
    refine t_done [l0, (.int .i64 n1), .empty, (.int .i64 i5), (.bool (decide (i5 < (len10 : Int)))), (.bool (decide (e11 < n1))), out8] H9 (by kernel_rfl) ?_
    refine then_norm ?_
    refine w_cond (t := (decide (e11 < n1))) rfl (fun hc => ?_) (fun hc => ?_)
    · replace h := h.1 (is_dec.t hc)
      refine w_run [0, 0, 0, 1, 1, 1, 1, 0] ?_
      obtain ⟨e13, hg14, h⟩ := h
      refine t_idxG true 1 l0 .i64 i5 H9 (by kernel_rfl) hg14 ?_
      refine t_loadG true none 1 l0 i5 0 (.int .i64 e13) H9 (by kernel_rfl) hg14 ?_
      obtain ⟨b15, H16, hb⟩ : ∃ b H', NewB H9 1 [(.int .i64 e13)] b H' := ⟨_, _, rfl, rfl⟩
      replace h := h b15 H16 hb
      refine t_bs true 1 [(.int .i64 0)] [(0, 1, .loc 0)] 1 [(.int .i64 e13)] [(.int .i64 e13)] b15 H16 H9 (by kernel_rfl) (fill_c (vs := [(.int .i64 e13)]) (size := 1) rfl (by kernel_rfl) (by kernel_rfl) (by kernel_rfl)) hb ?_
      obtain ⟨a17, H18, ha, h⟩ := h
      refine t_app true 1 8 out8 (.slice b15 0 1 (some 1)) a17 H18 H16 (by kernel_rfl) ha ?_
      refine t_done [l0, (.int .i64 n1), .empty, (.int .i64 i5), (.bool (decide (i5 < (len10 : Int)))), (.bool (decide (e11 < n1))), a17] H18 (by kernel_rfl) ?_
      refine block_norm ?_
      refine then_norm ?_
      refine w_run [0, 0, 0] ?_
      refine t_done [l0, (.int .i64 n1), .empty, (.int .i64 (IntKind.wrap .i64 (i5 + 1))), (.bool (decide (i5 < (len10 : Int)))), (.bool (decide (e11 < n1))), a17] H18 (by kernel_rfl) ?_
      obtain ⟨m', hm, h⟩ := h
      refine loop_norm ⟨m', hm, _, _, _, _, rfl, h⟩
    · replace h := h.2 (is_dec.f hc)
      refine w_skip ?_
      refine block_norm ?_
      refine then_norm ?_
      refine w_run [0, 0, 0] ?_
      refine t_done [l0, (.int .i64 n1), .empty, (.int .i64 (IntKind.wrap .i64 (i5 + 1))), (.bool (decide (i5 < (len10 : Int)))), (.bool (decide (e11 < n1))), out8] H9 (by kernel_rfl) ?_
      obtain ⟨m', hm, h⟩ := h
      refine loop_norm ⟨m', hm, _, _, _, _, rfl, h⟩
  · replace h := h.2 (is_dec.f hc)
    refine w_exit ?_
    refine then_exit ?_
    refine loop_exit ?_
    refine block_exit ?_
    refine then_norm ?_
    refine w_seq ?_
    refine w_run [0, 0] ?_
    refine t_done [l0, (.int .i64 n1), out8, (.int .i64 i5), (.bool (decide (i5 < (len10 : Int)))), d7, out8] H9 (by kernel_rfl) ?_
    refine then_norm ?_
    refine w_ret ?_
    exact body_ret (vs := [out8]) _ (by kernel_rfl) rfl h

end Go.RM

