import Derived.Test.YtpjbnjgckbhohaaRmWp
/-
  Functions of the program as the abstract machine runs them, and what must be shown of a run: printed by RmPrint.
-/
namespace Go.RM
set_option linter.unusedVariables false
set_option maxRecDepth 4000
end Go.RM

/-
  Functions of the program as the abstract machine runs them, and what must be shown of a run: printed by RmPrint.
-/
namespace Go.RM
set_option linter.unusedVariables false
set_option maxRecDepth 4000
def rf_FFault : RFunc := ⟨2, 3, [.part 2 (some 2)],
 ((.seq (.ops [⟨.tomb 1 (.k (.agg [.int .i64 0, .int .i64 0])), none, (some 2), true⟩])
 ((.seq (.ops [⟨.move (.var 0), none, none, true⟩, ⟨.move (.var 1), none, none, true⟩, ⟨.build [.int .i64 0, .int .i64 0] [(0, 1, (.loc 0)), (1, 1, (.loc 1))], none, none, true⟩, ⟨.upd 2 0 (.var 2) (.loc 2), none, (some 2), true⟩])
 (.ret))))), none⟩
theorem v_FFault {F : Nat → Option RFunc} {me : Nat} (hF : F me = some (rf_FFault )) {fl : Nat} {H : Heap} {Q : AV → Heap → Prop} (code0 : Int) (index1 : Int)
  (h : ∀ (H2 : Heap), Dead1 H 1 H2 → Q (.agg [(.int .i64 code0), (.int .i64 index1)]) H2) : Ret F fl me [(.int .i64 code0), (.int .i64 index1)] H Q := by
  refine ret_intro hF rfl ?_
  refine w_seq ?_
  refine w_run [1] ?_
  obtain ⟨H2, hb⟩ : ∃ H', Dead1 H 1 H' := ⟨_, ⟨rfl⟩⟩
  replace h := h H2 hb
  refine t_tomb true 1 (.agg [(.int .i64 0), (.int .i64 0)]) [(.int .i64 0), (.int .i64 0)] H2 H (by kernel_rfl) rfl hb ?_
  refine t_done [(.int .i64 code0), (.int .i64 index1), (.agg [(.int .i64 0), (.int .i64 0)])] H2 (by kernel_rfl) ?_
  refine then_norm ?_
  refine w_seq ?_
  refine w_run [0, 0, 1, 1] ?_
  refine t_build true [(.int .i64 0), (.int .i64 0)] [(0, 1, .loc 0), (1, 1, .loc 1)] [(.int .i64 code0), (.int .i64 index1)] [(.int .i64 code0), (.int .i64 index1)] H2 (by kernel_rfl) (fill_c (vs := [(.int .i64 code0)]) (size := 1) rfl (by kernel_rfl) (by kernel_rfl) (fill_c (vs := [(.int .i64 index1)]) (size := 1) rfl (by kernel_rfl) (by kernel_rfl) (by kernel_rfl))) ?_
  refine t_upd true 2 0 [(.int .i64 0), (.int .i64 0)] (.agg [(.int .i64 code0), (.int .i64 index1)]) [(.int .i64 code0), (.int .i64 index1)] [(.int .i64 code0), (.int .i64 index1)] H2 (by kernel_rfl) rfl (all_c rfl (all_c rfl all_n)) ⟨rfl, Nat.le_of_ble_eq_true (by kernel_rfl), rfl⟩ ?_
  refine t_done [(.int .i64 code0), (.int .i64 index1), (.agg [(.int .i64 code0), (.int .i64 index1)])] H2 (by kernel_rfl) ?_
  refine then_norm ?_
  refine w_ret ?_
  exact body_ret (vs := [(.agg [(.int .i64 code0), (.int .i64 index1)])]) _ (by kernel_rfl) rfl h

def rf_FHas : RFunc := ⟨2, 6, [.var 2],
 ((.seq (.ops [⟨.move (.k (.bool false)), none, (some 2), true⟩])
 ((.seq ((.seq (.ops [⟨.move (.k (.int .i64 0)), none, (some 3), true⟩])
 (.block 0 (.loop ((.seq ((.seq (.ops [⟨.move (.var 3), none, none, true⟩, ⟨.move (.var 0), none, none, true⟩, ⟨.len (.loc 1), none, none, true⟩, ⟨.bin .lss .no (.loc 0) (.loc 2), none, (some 4), true⟩])
 (.cond (.var 4) (.skip) (.exit 0))))
 ((.seq (.block 1 ((.seq (.ops [⟨.move (.var 0), none, none, true⟩, ⟨.move (.var 3), none, none, true⟩, ⟨.indexAddr 1 (.loc 0) (.loc 1), none, none, true⟩, ⟨.load none (.loc 2), none, none, true⟩, ⟨.move (.var 1), none, none, true⟩, ⟨.bin .eql .no (.loc 3) (.loc 4), none, (some 5), true⟩])
 (.cond (.var 5) ((.seq (.ops [⟨.move (.k (.bool true)), none, (some 2), true⟩])
 (.ret))) (.skip)))))
 (.ops [⟨.move (.var 3), none, none, true⟩, ⟨.bin .add .no (.loc 0) (.k (.int .i64 1)), none, none, true⟩, ⟨.move (.loc 1), none, (some 3), true⟩])))))))))
 ((.seq (.ops [⟨.move (.k (.bool false)), none, (some 2), true⟩])
 (.ret))))))), none⟩
theorem v_FHas {F : Nat → Option RFunc} {me : Nat} (hF : F me = some (rf_FHas )) {fl : Nat} {H : Heap} {Q : AV → Heap → Prop} (l0 : AV) (n1 : Int)
  (h : ∃ (J2 : Nat → Int → Prop) (k3 : Nat), J2 k3 0 ∧ (∀ (m4 : Nat) (i6 : Int), J2 m4 i6 → ∃ len9 : Nat, lenA l0 = some len9 ∧ ((i6 < (len9 : Int)) → ∃ (e10 : Int), getA H 1 none l0 i6 0 = some (.int .i64 e10) ∧ ((e10 = n1) → Q (.bool true) H) ∧ (¬(e10 = n1) → ∃ m12 : Nat, m12 < m4 ∧ J2 m12 (IntKind.wrap .i64 (i6 + 1)))) ∧ (¬(i6 < (len9 : Int)) → Q (.bool false) H))) : Ret F fl me [l0, (.int .i64 n1)] H Q := by
  refine ret_intro hF rfl ?_
  refine w_seq ?_
  refine w_run [0] ?_
  refine t_done [l0, (.int .i64 n1), (.bool false), .undef, .undef, .undef] H (by kernel_rfl) ?_
  refine then_norm ?_
  refine w_seq ?_
  refine w_seq ?_
  refine w_run [0] ?_
  refine t_done [l0, (.int .i64 n1), (.bool false), (.int .i64 0), .undef, .undef] H (by kernel_rfl) ?_
  refine then_norm ?_
  refine w_block ?_
  obtain ⟨J2, k3, h0, h⟩ := h
  refine w_loop (I := fun mI EI HI => ∃ (d5 : AV) (i6 : Int) (d7 : AV) (d8 : AV), EI = [l0, (.int .i64 n1), d5, (.int .i64 i6), d7, d8] ∧ H = HI ∧ J2 mI i6) ?_ k3 ⟨_, _, _, _, rfl, rfl, h0⟩
  clear h0
  rintro m4 EI HI ⟨d5, i6, d7, d8, rfl, rfl, hJ⟩
  replace h := h m4 i6  hJ
  clear hJ
  refine w_seq ?_
  refine w_seq ?_
  refine w_run [0, 0, 1, 0] ?_
  obtain ⟨len9, hl, h⟩ := h
  refine t_len true l0 len9 H (by kernel_rfl) hl ?_
  refine t_done [l0, (.int .i64 n1), d5, (.int .i64 i6), (.bool (decide (i6 < (len9 : Int)))), d8] H (by kernel_rfl) ?_
  refine then_norm ?_
  refine w_cond (t := (decide (i6 < (len9 : Int)))) rfl (fun hc => ?_) (fun hc => ?_)
  · replace h := h.1 (is_dec.t hc)
    refine w_skip ?_
    refine then_norm ?_
    refine w_seq ?_
    refine w_block ?_
    refine w_seq ?_
    refine w_run [0, 0, 1, 1, 0, 0] ?_
    obtain ⟨e10, hg11, h⟩ := h
    refine t_idxG true 1 l0 .i64 i6 H (by kernel_rfl) hg11 ?_
    refine t_loadG true none 1 l0 i6 0 (.int .i64 e10) H (by kernel_rfl) hg11 ?_
    refine t_done [l0, (.int .i64 n1), d5, (.int .i64 i6), (.bool (decide (i6 < (len9 : Int)))), (.bool (e10 == n1))] H (by kernel_rfl) ?_
    refine then_norm ?_
    refine w_cond (t := (e10 == n1)) rfl (fun hc => ?_) (fun hc => ?_)
    · replace h := h.1 (is_eq.t hc)
      refine w_seq ?_
      refine w_run [0] ?_
      refine t_done [l0, (.int .i64 n1), (.bool true), (.int .i64 i6), (.bool (decide (i6 < (len9 : Int)))), (.bool (e10 == n1))] H (by kernel_rfl) ?_
      refine then_norm ?_
      refine w_ret ?_
      refine block_ret ?_
      refine then_ret ?_
      refine loop_ret ?_
      refine block_ret ?_
      refine then_ret ?_
      exact body_ret (vs := [(.bool true)]) _ (by kernel_rfl) rfl h
    · replace h := h.2 (is_eq.f hc)
      refine w_skip ?_
      refine block_norm ?_
      refine then_norm ?_
      refine w_run [0, 0, 0] ?_
      refine t_done [l0, (.int .i64 n1), d5, (.int .i64 (IntKind.wrap .i64 (i6 + 1))), (.bool (decide (i6 < (len9 : Int)))), (.bool (e10 == n1))] H (by kernel_rfl) ?_
      obtain ⟨m', hm, h⟩ := h
      refine loop_norm ⟨m', hm, _, _, _, _, rfl, rfl, h⟩
  · replace h := h.2 (is_dec.f hc)
    refine w_exit ?_
    refine then_exit ?_
    refine loop_exit ?_
    refine block_exit ?_
    refine then_norm ?_
    refine w_seq ?_
    refine w_run [0] ?_
    refine t_done [l0, (.int .i64 n1), (.bool false), (.int .i64 i6), (.bool (decide (i6 < (len9 : Int)))), d8] H (by kernel_rfl) ?_
    refine then_norm ?_
    refine w_ret ?_
    exact body_ret (vs := [(.bool false)]) _ (by kernel_rfl) rfl h

def rf_FEqualInts : RFunc := ⟨2, 7, [.var 2],
 ((.seq (.ops [⟨.move (.k (.bool false)), none, (some 2), true⟩])
 ((.seq ((.seq (.ops [⟨.move (.var 0), none, none, true⟩, ⟨.len (.loc 0), none, none, true⟩, ⟨.move (.var 1), none, none, true⟩, ⟨.len (.loc 2), none, none, true⟩, ⟨.bin .neq .no (.loc 1) (.loc 3), none, (some 3), true⟩])
 (.cond (.var 3) ((.seq (.ops [⟨.move (.k (.bool false)), none, (some 2), true⟩])
 (.ret))) (.skip))))
 ((.seq ((.seq (.ops [⟨.move (.k (.int .i64 0)), none, (some 4), true⟩])
 (.block 0 (.loop ((.seq ((.seq (.ops [⟨.move (.var 4), none, none, true⟩, ⟨.move (.var 0), none, none, true⟩, ⟨.len (.loc 1), none, none, true⟩, ⟨.bin .lss .no (.loc 0) (.loc 2), none, (some 5), true⟩])
 (.cond (.var 5) (.skip) (.exit 0))))
 ((.seq (.block 1 ((.seq (.ops [⟨.move (.var 0), none, none, false⟩, ⟨.move (.var 4), none, none, false⟩, ⟨.indexAddr 1 (.loc 0) (.loc 1), none, none, false⟩, ⟨.load none (.loc 2), none, none, false⟩, ⟨.move (.var 1), none, none, false⟩, ⟨.move (.var 4), none, none, false⟩, ⟨.indexAddr 1 (.loc 4) (.loc 5), none, none, false⟩, ⟨.load none (.loc 6), none, none, false⟩, ⟨.bin .neq .no (.loc 3) (.loc 7), none, (some 6), true⟩])
 (.cond (.var 6) ((.seq (.ops [⟨.move (.k (.bool false)), none, (some 2), true⟩])
 (.ret))) (.skip)))))
 (.ops [⟨.move (.var 4), none, none, true⟩, ⟨.bin .add .no (.loc 0) (.k (.int .i64 1)), none, none, true⟩, ⟨.move (.loc 1), none, (some 4), true⟩])))))))))
 ((.seq (.ops [⟨.move (.k (.bool true)), none, (some 2), true⟩])
 (.ret))))))))), none⟩
theorem v_FEqualInts {F : Nat → Option RFunc} {me : Nat} (hF : F me = some (rf_FEqualInts )) {fl : Nat} {H : Heap} {Q : AV → Heap → Prop} (a0 : AV) (b1 : AV)
  (h : ∃ len2 : Nat, lenA a0 = some len2 ∧ ∃ len3 : Nat, lenA b1 = some len3 ∧ (((len2 : Int) ≠ (len3 : Int)) → Q (.bool false) H) ∧ (¬((len2 : Int) ≠ (len3 : Int)) → ∃ (J4 : Nat → Int → Prop) (k5 : Nat), J4 k5 0 ∧ (∀ (m6 : Nat) (i8 : Int), J4 m6 i8 → ∃ len11 : Nat, lenA a0 = some len11 ∧ ((i8 < (len11 : Int)) → ∃ (e12 : Int), getA H 1 none a0 i8 0 = some (.int .i64 e12) ∧ ∃ (e14 : Int), getA H 1 none b1 i8 0 = some (.int .i64 e14) ∧ ((e12 ≠ e14) → Q (.bool false) H) ∧ (¬(e12 ≠ e14) → ∃ m16 : Nat, m16 < m6 ∧ J4 m16 (IntKind.wrap .i64 (i8 + 1)))) ∧ (¬(i8 < (len11 : Int)) → Q (.bool true) H)))) : Ret F fl me [a0, b1] H Q := by
  refine ret_intro hF rfl ?_
  refine w_seq ?_
  refine w_run [0] ?_
  refine t_done [a0, b1, (.bool false), .undef, .undef, .undef, .undef] H (by kernel_rfl) ?_
  refine then_norm ?_
  refine w_seq ?_
  refine w_seq ?_
  refine w_run [0, 1, 0, 1, 0] ?_
  obtain ⟨len2, hl, h⟩ := h
  refine t_len true a0 len2 H (by kernel_rfl) hl ?_
  obtain ⟨len3, hl, h⟩ := h
  refine t_len true b1 len3 H (by kernel_rfl) hl ?_
  refine t_done [a0, b1, (.bool false), (.bool ((len2 : Int) != (len3 : Int))), .undef, .undef, .undef] H (by kernel_rfl) ?_
  refine then_norm ?_
  refine w_cond (t := ((len2 : Int) != (len3 : Int))) rfl (fun hc => ?_) (fun hc => ?_)
  · replace h := h.1 (is_ne.t hc)
    refine w_seq ?_
    refine w_run [0] ?_
    refine t_done [a0, b1, (.bool false), (.bool ((len2 : Int) != (len3 : Int))), .undef, .undef, .undef] H (by kernel_rfl) ?_
    refine then_norm ?_
    refine w_ret ?_
    refine then_ret ?_
    exact body_ret (vs := [(.bool false)]) _ (by kernel_rfl) rfl h
  · replace h := h.2 (is_ne.f hc)
    refine w_skip ?_
    refine then_norm ?_
    refine w_seq ?_
    refine w_seq ?_
    refine w_run [0] ?_
    refine t_done [a0, b1, (.bool false), (.bool ((len2 : Int) != (len3 : Int))), (.int .i64 0), .undef, .undef] H (by kernel_rfl) ?_
    refine then_norm ?_
    refine w_block ?_
    obtain ⟨J4, k5, h0, h⟩ := h
    refine w_loop (I := fun mI EI HI => ∃ (d7 : AV) (i8 : Int) (d9 : AV) (d10 : AV), EI = [a0, b1, d7, (.bool ((len2 : Int) != (len3 : Int))), (.int .i64 i8), d9, d10] ∧ H = HI ∧ J4 mI i8) ?_ k5 ⟨_, _, _, _, rfl, rfl, h0⟩
    clear h0
    rintro m6 EI HI ⟨d7, i8, d9, d10, rfl, rfl, hJ⟩
    replace h := h m6 i8  hJ
    clear hJ
    refine w_seq ?_
    refine w_seq ?_
    refine w_run [0, 0, 1, 0] ?_
    obtain ⟨len11, hl, h⟩ := h
    refine t_len true a0 len11 H (by kernel_rfl) hl ?_
    refine t_done [a0, b1, d7, (.bool ((len2 : Int) != (len3 : Int))), (.int .i64 i8), (.bool (decide (i8 < (len11 : Int)))), d10] H (by kernel_rfl) ?_
    refine then_norm ?_
    refine w_cond (t := (decide (i8 < (len11 : Int)))) rfl (fun hc => ?_) (fun hc => ?_)
    · replace h := h.1 (is_dec.t hc)
      refine w_skip ?_
      refine then_norm ?_
      refine w_seq ?_
      refine w_block ?_
      refine w_seq ?_
      refine w_run [0, 0, 1, 1, 0, 0, 1, 1, 0] ?_
      obtain ⟨e12, hg13, h⟩ := h
      refine t_idxG false 1 a0 .i64 i8 H (by kernel_rfl) hg13 ?_
      refine t_loadG false none 1 a0 i8 0 (.int .i64 e12) H (by kernel_rfl) hg13 ?_
      obtain ⟨e14, hg15, h⟩ := h
      refine t_idxG false 1 b1 .i64 i8 H (by kernel_rfl) hg15 ?_
      refine t_loadG false none 1 b1 i8 0 (.int .i64 e14) H (by kernel_rfl) hg15 ?_
      refine t_done [a0, b1, d7, (.bool ((len2 : Int) != (len3 : Int))), (.int .i64 i8), (.bool (decide (i8 < (len11 : Int)))), (.bool (e12 != e14))] H (by kernel_rfl) ?_
      refine then_norm ?_
      refine w_cond (t := (e12 != e14)) rfl (fun hc => ?_) (fun hc => ?_)
      · replace h := h.1 (is_ne.t hc)
        refine w_seq ?_
        refine w_run [0] ?_
        refine t_done [a0, b1, (.bool false), (.bool ((len2 : Int) != (len3 : Int))), (.int .i64 i8), (.bool (decide (i8 < (len11 : Int)))), (.bool (e12 != e14))] H (by kernel_rfl) ?_
        refine then_norm ?_
        refine w_ret ?_
        refine block_ret ?_
        refine then_ret ?_
        refine loop_ret ?_
        refine block_ret ?_
        refine then_ret ?_
        exact body_ret (vs := [(.bool false)]) _ (by kernel_rfl) rfl h
      · replace h := h.2 (is_ne.f hc)
        refine w_skip ?_
        refine block_norm ?_
        refine then_norm ?_
        refine w_run [0, 0, 0] ?_
        refine t_done [a0, b1, d7, (.bool ((len2 : Int) != (len3 : Int))), (.int .i64 (IntKind.wrap .i64 (i8 + 1))), (.bool (decide (i8 < (len11 : Int)))), (.bool (e12 != e14))] H (by kernel_rfl) ?_
        obtain ⟨m', hm, h⟩ := h
        refine loop_norm ⟨m', hm, _, _, _, _, rfl, rfl, h⟩
    · replace h := h.2 (is_dec.f hc)
      refine w_exit ?_
      refine then_exit ?_
      refine loop_exit ?_
      refine block_exit ?_
      refine then_norm ?_
      refine w_seq ?_
      refine w_run [0] ?_
      refine t_done [a0, b1, (.bool true), (.bool ((len2 : Int) != (len3 : Int))), (.int .i64 i8), (.bool (decide (i8 < (len11 : Int)))), d10] H (by kernel_rfl) ?_
      refine then_norm ?_
      refine w_ret ?_
      exact body_ret (vs := [(.bool true)]) _ (by kernel_rfl) rfl h

end Go.RM

/-
  What stands in the heap, as lists: slices that are read, slices that are built, and what a run leaves as it was.
-/
namespace Go.RM
set_option linter.unusedSimpArgs false
set_option linter.unusedVariables false

/-- The first n blocks are as they were. -/
structure Keep (n : Nat) (H H' : Heap) : Prop where
  low : n ≤ H.length
  len : H.length ≤ H'.length
  get : ∀ b, b < n → H'[b]? = H[b]?

theorem Keep.refl (H : Heap) : Keep H.length H H := ⟨Nat.le_refl _, Nat.le_refl _, fun _ _ => rfl⟩
theorem Keep.rfl' {n : Nat} {H : Heap} (h : n ≤ H.length) : Keep n H H := ⟨h, Nat.le_refl _, fun _ _ => rfl⟩
theorem Keep.trans {n m : Nat} {H H1 H2 : Heap} (a : Keep n H H1) (b : Keep m H1 H2) (h : n ≤ m) : Keep n H H2 :=
  ⟨a.low, Nat.le_trans a.len b.len, fun x hx => (b.get x (by omega)).trans (a.get x hx)⟩
theorem Keep.tr {n : Nat} {H H1 H2 : Heap} (a : Keep n H H1) (b : Keep n H1 H2) : Keep n H H2 := a.trans b (Nat.le_refl _)
/-- Behind a step that leaves all blocks alone. -/
theorem Keep.call {n : Nat} {H H1 H2 : Heap} (a : Keep n H H1) (b : Keep H1.length H1 H2) : Keep n H H2 := a.trans b (Nat.le_trans a.low a.len)
theorem Keep.less {n m : Nat} {H H1 : Heap} (a : Keep n H H1) (h : m ≤ n) : Keep m H H1 := ⟨Nat.le_trans h a.low, a.len, fun b hb => a.get b (by omega)⟩
theorem Keep.app (H : Heap) (m : List Blk) : Keep H.length H (H ++ m) := ⟨Nat.le_refl _, by simp, fun b hb => List.getElem?_append_left hb⟩
theorem Keep.fl {n fl : Nat} {H H' : Heap} (k : Keep n H H') (h : fl ≤ n) : fl ≤ H'.length := Nat.le_trans h (Nat.le_trans k.low k.len)

theorem NewB.keep {H H' : Heap} {e b : Nat} {cs : List AV} (h : NewB H e cs b H') : Keep H.length H H' := by obtain ⟨_, rfl⟩ := h; exact Keep.app _ _
theorem Dead1.keep {H H' : Heap} {e : Nat} (h : Dead1 H e H') : Keep H.length H H' := by obtain ⟨rfl⟩ := h; exact Keep.app _ _
theorem NewB.get {H H' : Heap} {e b : Nat} {cs : List AV} (h : NewB H e cs b H') : H'[b]? = some { cells := cs, e := e } := by
  obtain ⟨rfl, rfl⟩ := h; exact snoc_end _ _
theorem NewB.lt {H H' : Heap} {e b : Nat} {cs : List AV} (h : NewB H e cs b H') : b < H'.length := get_lt h.get

theorem act_live {H : Heap} {b : Nat} {k : Blk} (h : H[b]? = some k) (hl : k.live = true) : H.act b = some k := act_of h (.inl hl)

theorem Keep.act {n : Nat} {H H' : Heap} (h : Keep n H H') {b : Nat} {k : Blk} (hb : b < n) (ha : H.act b = some k) (hk : ∀ c, k.kid = some c → c < n) : H'.act b = some k := by
  rw [← ha]
  refine act_same2 (h.get b hb) fun k' c h1 h2 => ?_
  have := act_get ha
  rw [h1] at this; cases this
  exact h.get c (hk c h2)

/-- A block that can be read stands in the heap, and so does what was made out of it. -/
theorem act_kid {H : Heap} {b : Nat} {k : Blk} (ha : H.act b = some k) : k.live = true ∨ ∃ c, k.kid = some c ∧ c < H.length := by
  unfold Heap.act at ha
  rw [act_get ha] at ha
  simp only at ha
  by_cases hl : k.live = true
  · exact .inl hl
  · right
    simp only [hl, Bool.false_or] at ha
    split at ha
    · rename_i hr
      obtain ⟨c, hc⟩ := Option.isSome_iff_exists.1 hr
      refine ⟨c, (rev_kid hc).2, ?_⟩
      unfold Heap.rev at hc
      simp only [hl, (rev_kid hc).2] at hc
      cases hg : H[c]? with
      | none => simp [hg] at hc
      | some kc => exact get_lt hg
    · cases ha

theorem Keep.all {H H' : Heap} (h : Keep H.length H H') {b : Nat} {k : Blk} (ha : H.act b = some k) : H'.act b = some k := by
  rcases act_kid ha with hl | ⟨c, hc, hlt⟩
  · have hg := act_get ha
    exact act_live (by rw [h.get b (get_lt hg)]; exact hg) hl
  · exact h.act (get_lt (act_get ha)) ha fun c' h' => by rw [hc] at h'; cases h'; exact hlt

/-! ### Lists against lists -/

def All2 {α β : Type} (R : α → β → Prop) : List α → List β → Prop
  | [], [] => True
  | a :: l, b :: m => R a b ∧ All2 R l m
  | _, _ => False

theorem All2.len {α β : Type} {R : α → β → Prop} : ∀ {l : List α} {m : List β}, All2 R l m → l.length = m.length
  | [], [], _ => rfl
  | _ :: _, _ :: _, h => by simp [All2.len h.2]
theorem All2.mono {α β : Type} {R S : α → β → Prop} (hRS : ∀ a b, R a b → S a b) : ∀ {l : List α} {m : List β}, All2 R l m → All2 S l m
  | [], [], _ => trivial
  | _ :: _, _ :: _, h => ⟨hRS _ _ h.1, All2.mono hRS h.2⟩
theorem All2.app {α β : Type} {R : α → β → Prop} : ∀ {l : List α} {m : List β} {l' : List α} {m' : List β}, All2 R l m → All2 R l' m' → All2 R (l ++ l') (m ++ m')
  | [], [], _, _, _, h => h
  | _ :: _, _ :: _, _, _, h, g => ⟨h.1, All2.app h.2 g⟩
theorem All2.drop {α β : Type} {R : α → β → Prop} : ∀ {l : List α} {m : List β} (n : Nat), All2 R l m → All2 R (l.drop n) (m.drop n)
  | _, _, 0, h => h
  | [], [], _ + 1, _ => trivial
  | _ :: _, _ :: _, n + 1, h => All2.drop n h.2
theorem All2.take {α β : Type} {R : α → β → Prop} (n : Nat) : ∀ {l : List α} {m : List β}, All2 R l m → All2 R (l.take n) (m.take n) := by
  induction n with
  | zero => intro l m _; simp only [List.take_zero]; trivial
  | succ n ih =>
    intro l m h
    match l, m, h with
    | [], [], _ => trivial
    | _ :: _, _ :: _, h => exact ⟨h.1, ih h.2⟩
theorem All2.get {α β : Type} {R : α → β → Prop} : ∀ {l : List α} {m : List β}, All2 R l m → ∀ {i : Nat} (hi : i < m.length), ∃ a, l[i]? = some a ∧ R a m[i] := by
  intro l
  induction l with
  | nil =>
    intro m h i hi
    cases m with
    | nil => exact absurd hi (Nat.not_lt_zero _)
    | cons _ _ => exact h.elim
  | cons a l ih =>
    intro m h i hi
    cases m with
    | nil => exact h.elim
    | cons b m =>
      cases i with
      | zero => exact ⟨a, rfl, h.1⟩
      | succ i =>
        obtain ⟨x, h1, h2⟩ := ih h.2 (i := i) (by simpa using hi)
        exact ⟨x, by simpa using h1, h2⟩
theorem All2.set {α β : Type} {R : α → β → Prop} : ∀ {l : List α} {m : List β} (i : Nat) {a : α} {b : β}, All2 R l m → R a b → All2 R (l.set i a) (m.set i b)
  | [], [], i, _, _, _, _ => by simp only [List.set_nil]; trivial
  | _ :: _, _ :: _, 0, _, _, h, g => ⟨g, h.2⟩
  | _ :: _, _ :: _, i + 1, _, _, h, g => ⟨h.1, All2.set i h.2 g⟩

theorem flat_len {e : Nat} : ∀ {css : List (List AV)}, (∀ c ∈ css, c.length = e) → css.flatten.length = css.length * e
  | [], _ => by simp
  | c :: l, h => by
    rw [List.flatten_cons, List.length_append, flat_len fun x hx => h x (List.mem_cons_of_mem _ hx), h c (List.mem_cons_self ..), List.length_cons, Nat.succ_mul]; omega

theorem flat_drop {e : Nat} : ∀ {css : List (List AV)} (n : Nat), (∀ c ∈ css, c.length = e) → css.flatten.drop (n * e) = (css.drop n).flatten
  | css, 0, _ => by simp
  | [], n + 1, _ => by simp
  | c :: l, n + 1, h => by
    have hc := h c (List.mem_cons_self ..)
    rw [List.flatten_cons, List.drop_succ_cons, ← flat_drop n fun x hx => h x (List.mem_cons_of_mem _ hx), Nat.succ_mul, List.drop_append, @List.drop_eq_nil_of_le _ c _ (by omega), List.nil_append]
    congr 1; omega

theorem flat_take {e : Nat} : ∀ {css : List (List AV)} (n : Nat), (∀ c ∈ css, c.length = e) → css.flatten.take (n * e) = (css.take n).flatten
  | css, 0, _ => by simp
  | [], n + 1, _ => by simp
  | c :: l, n + 1, h => by
    have hc := h c (List.mem_cons_self ..)
    rw [List.flatten_cons, List.take_succ_cons, List.flatten_cons, ← flat_take n fun x hx => h x (List.mem_cons_of_mem _ hx), Nat.succ_mul, List.take_append, List.take_of_length_le (by omega)]
    congr 2; omega

theorem flat_get {e : Nat} {css : List (List AV)} (h : ∀ c ∈ css, c.length = e) {i : Nat} {c : List AV} (hc : css[i]? = some c) {o : Nat} (ho : o < e) : css.flatten[i * e + o]? = c[o]? := by
  have hd := flat_drop i h
  have h1 : css.flatten[i * e + o]? = (css.flatten.drop (i * e))[o]? := by rw [List.getElem?_drop]
  have hi : i < css.length := by
    rcases Nat.lt_or_ge i css.length with h | h
    · exact h
    · rw [List.getElem?_eq_none h] at hc; cases hc
  have hcl : c.length = e := h c (List.mem_of_getElem? hc)
  rw [h1, hd, List.drop_eq_getElem_cons hi]
  rw [List.getElem?_eq_getElem hi] at hc; cases hc
  rw [List.flatten_cons, List.getElem?_append_left (by omega)]

theorem flat_seg {e : Nat} {css : List (List AV)} (h : ∀ c ∈ css, c.length = e) {i : Nat} {c : List AV} (hc : css[i]? = some c) : (css.flatten.drop (i * e)).take e = c := by
  have hi : i < css.length := by
    rcases Nat.lt_or_ge i css.length with h | h
    · exact h
    · rw [List.getElem?_eq_none h] at hc; cases hc
  have hcl : c.length = e := h c (List.mem_of_getElem? hc)
  rw [flat_drop i h, List.drop_eq_getElem_cons hi]
  rw [List.getElem?_eq_getElem hi] at hc; cases hc
  rw [List.flatten_cons, List.take_append_of_le_length (by omega), List.take_of_length_le (by omega)]

/-! ### What an element is -/

structure Ty (α : Type) where
  e : Nat
  rel : Heap → List AV → α → Prop
  pos : 0 < e
  len : ∀ {H c a}, rel H c a → c.length = e
  scal : ∀ {H c a}, rel H c a → c.all AV.scalar = true
  keep : ∀ {H H' c a}, Keep H.length H H' → rel H c a → rel H' c a

/-- Elements that refer to no block. -/
def Ty.Plain {α : Type} (T : Ty α) : Prop := ∀ {H H' : Heap} {c : List AV} {a : α}, T.rel H c a → T.rel H' c a

structure Sl (H : Heap) (e : Nat) (v : AV) (n : Nat) (cs : List AV) : Prop where
  small : n ≤ 9223372036854775807
  out : (v = .empty ∧ n = 0 ∧ cs = []) ∨ ∃ b off lim k, v = .slice b off n lim ∧ H.act b = some k ∧ k.e = e ∧ off + n * e ≤ k.cells.length ∧ n ≤ lim.getD n ∧ cs = (k.cells.drop off).take (n * e)

/-- A slice that may be read. -/
structure Arr {α : Type} (T : Ty α) (H : Heap) (v : AV) (l : List α) : Prop where
  out : ∃ css, All2 (T.rel H) css l ∧ Sl H T.e v l.length css.flatten

section
variable {α : Type} {T : Ty α} {H H' H0 : Heap} {v : AV} {l : List α}

theorem All2.lens {css : List (List AV)} (h : All2 (T.rel H) css l) : ∀ c ∈ css, c.length = T.e := by
  induction css generalizing l with
  | nil => intro c hc; cases hc
  | cons a css ih =>
    cases l with
    | nil => exact h.elim
    | cons b l =>
      intro c hc
      rcases List.mem_cons.1 hc with e | e
      · subst e; exact T.len h.1
      · exact ih h.2 c e

theorem All2.scals {css : List (List AV)} (h : All2 (T.rel H) css l) : css.flatten.all AV.scalar = true := by
  induction css generalizing l with
  | nil => rfl
  | cons a css ih =>
    cases l with
    | nil => exact h.elim
    | cons b l => rw [List.flatten_cons, List.all_append, T.scal h.1, ih h.2]; rfl

theorem Sl.keep {e n : Nat} {cs : List AV} (k : Keep H.length H H') (h : Sl H e v n cs) : Sl H' e v n cs := by
  rcases h.out with g | ⟨b, off, lim, kb, h1, h2, h3⟩
  · exact ⟨h.small, .inl g⟩
  · exact ⟨h.small, .inr ⟨b, off, lim, kb, h1, k.all h2, h3⟩⟩

theorem Arr.keep (k : Keep H.length H H') (h : Arr T H v l) : Arr T H' v l := by
  obtain ⟨css, h1, h2⟩ := h
  exact ⟨css, h1.mono fun _ _ => T.keep k, h2.keep k⟩

theorem Sl.len {e n : Nat} {cs : List AV} (h : Sl H e v n cs) : lenA v = some n := by
  rcases h.out with ⟨rfl, rfl, _⟩ | ⟨b, off, lim, kb, rfl, _⟩ <;> rfl
theorem Arr.len (h : Arr T H v l) : lenA v = some l.length := by obtain ⟨css, _, h⟩ := h; exact h.len
theorem Arr.small (h : Arr T H v l) : l.length ≤ 9223372036854775807 := by obtain ⟨css, _, h⟩ := h; exact h.small
theorem Arr.len' (h : Arr T H v l) {n : Nat} (hn : l.length = n) : lenA v = some n := hn ▸ h.len

theorem Sl.scal {e n : Nat} {cs : List AV} (h : Sl H e v n cs) : Scal v := by
  rcases h.out with ⟨rfl, _, _⟩ | ⟨b, off, lim, kb, rfl, _⟩ <;> exact ⟨rfl, rfl⟩
theorem Arr.scal (h : Arr T H v l) : Scal v := by obtain ⟨css, _, h⟩ := h; exact h.scal

theorem Arr.nil : Arr T H .empty ([] : List α) := ⟨⟨[], trivial, ⟨Nat.zero_le _, .inl ⟨rfl, rfl, rfl⟩⟩⟩⟩

theorem Sl.cell {e n : Nat} {cs : List AV} (h : Sl H e v n cs) {i o : Nat} (hi : i < n) (ho : o < e) {x : AV} (hx : cs[i * e + o]? = some x) : getA H e none v i o = some x := by
  rcases h.out with ⟨rfl, rfl, _⟩ | ⟨b, off, lim, kb, rfl, h2, h3, h4, h6, h5⟩
  · omega
  · have hm : i * e + o < n * e := by
      have : (i + 1) * e ≤ n * e := Nat.mul_le_mul_right e hi
      rw [Nat.succ_mul] at this; omega
    show (if (0 : Int) ≤ i ∧ (i : Int) < n then rload H none b (off + (i : Int).toNat * e + o) else none) = _
    rw [if_pos (by omega), Int.toNat_natCast]
    unfold rload
    rw [h2]
    simp only
    rw [h5, List.getElem?_take_of_lt hm, List.getElem?_drop] at hx
    rw [← hx, Nat.add_assoc]

theorem Sl.seg {e n : Nat} {cs : List AV} (h : Sl H e v n cs) {i : Nat} (hi : i < n) {c : List AV} (hc : (cs.drop (i * e)).take e = c) : getA H e (some e) v i 0 = some (.agg c) := by
  rcases h.out with ⟨rfl, rfl, _⟩ | ⟨b, off, lim, kb, rfl, h2, h3, h4, h6, h5⟩
  · omega
  · have hm : i * e + e ≤ n * e := by
      have : (i + 1) * e ≤ n * e := Nat.mul_le_mul_right e hi
      rw [Nat.succ_mul] at this; omega
    show (if (0 : Int) ≤ i ∧ (i : Int) < n then rload H (some e) b (off + (i : Int).toNat * e + 0) else none) = _
    rw [if_pos (by omega), Int.toNat_natCast]
    unfold rload
    rw [h2]
    simp only [Nat.add_zero]
    rw [if_pos (by omega)]
    congr 2
    rw [← hc, h5, List.drop_take, List.take_take, List.drop_drop]
    congr 1
    omega

/-- An element's cells. -/
theorem Arr.get (h : Arr T H v l) {i : Nat} (hi : i < l.length) : ∃ c, T.rel H c l[i] ∧ getA H T.e (some T.e) v i 0 = some (.agg c) ∧ ∀ o x, c[o]? = some x → getA H T.e none v i o = some x := by
  obtain ⟨css, h1, h2⟩ := h
  obtain ⟨c, h3, h4⟩ := h1.get hi
  refine ⟨c, h4, h2.seg hi (flat_seg h1.lens h3), fun o x hx => ?_⟩
  have ho : o < T.e := by
    rw [← T.len h4]
    rcases Nat.lt_or_ge o c.length with h | h
    · exact h
    · rw [List.getElem?_eq_none h] at hx; cases hx
  exact h2.cell hi ho (by rw [flat_get h1.lens h3 ho]; exact hx)

theorem Sl.slice {e n : Nat} {cs : List AV} (h : Sl H e v n cs) {lo hi : Nat} (h1 : lo ≤ hi) (h2 : hi ≤ n) {a b : Option AV} (ha : boundOf a 0 = some lo) (hb : boundOf b n = some hi) :
    ∃ w, rslice H e v a b none = some w ∧ Sl H e w (hi - lo) ((cs.take (hi * e)).drop (lo * e)) := by
  rcases h.out with ⟨rfl, rfl, rfl⟩ | ⟨bb, off, lim, kb, rfl, g2, g3, g4, g6, g5⟩
  · obtain rfl : hi = 0 := by omega
    obtain rfl : lo = 0 := by omega
    refine ⟨.empty, ?_, ⟨by decide, .inl ⟨rfl, rfl, by simp⟩⟩⟩
    simp only [rslice, ha, hb]
    rfl
  · have hmul : hi * e ≤ n * e := Nat.mul_le_mul_right e h2
    have hmul2 : lo * e ≤ hi * e := Nat.mul_le_mul_right e h1
    refine ⟨.slice bb (off + lo * e) (hi - lo) (if lim.isSome then some (lim.getD n - lo) else none), ?_, ⟨by have := h.small; omega, .inr ⟨bb, off + lo * e, _, kb, rfl, g2, g3, ?_, ?_, ?_⟩⟩⟩
    · simp only [rslice, ha, hb]
      show (if lo ≤ hi ∧ (hi ≤ lim.getD n ∨ upB H e bb off hi a b none lim = true) ∧ lim.getD n ≤ lim.getD n ∧ (lo = 0 ∨ (H[bb]?).map (·.e) = some e) then some (AV.slice bb (off + lo * e) (hi - lo) (if false || lim.isSome then some (lim.getD n - lo) else none)) else none) = _
      rw [if_pos ⟨h1, .inl (by omega), Nat.le_refl _, .inr (by rw [act_get g2]; simp [g3])⟩]
      rfl
    · rw [Nat.sub_mul]; omega
    · cases lim with
      | none => simp
      | some c => simp only [Option.getD_some, Option.isSome_some, if_true] at g6 ⊢; omega
    · rw [g5, List.take_take, Nat.min_eq_left hmul, List.drop_take, List.drop_drop, Nat.sub_mul]

theorem Arr.slice (h : Arr T H v l) {lo hi : Nat} (h1 : lo ≤ hi) (h2 : hi ≤ l.length) {a b : Option AV} (ha : boundOf a 0 = some lo) (hb : boundOf b l.length = some hi) :
    ∃ w, rslice H T.e v a b none = some w ∧ Arr T H w ((l.take hi).drop lo) := by
  obtain ⟨css, g1, g2⟩ := h
  obtain ⟨w, h3, h4⟩ := g2.slice h1 h2 ha hb
  refine ⟨w, h3, (css.take hi).drop lo, (g1.take hi).drop lo, ?_⟩
  rw [flat_take hi g1.lens, flat_drop lo fun c hc => g1.lens c (List.mem_of_mem_take hc)] at h4
  have : ((l.take hi).drop lo).length = hi - lo := by rw [List.length_drop, List.length_take]; omega
  rw [this]; exact h4

theorem bound_int {n : Nat} (d : Nat) : boundOf (some (.int .i64 (n : Int))) d = some n := by
  show (if (0 : Int) ≤ n then some (n : Int).toNat else none) = _
  rw [if_pos (by omega), Int.toNat_natCast]

/-- xs[:n] -/
theorem Arr.upto (h : Arr T H v l) {n : Nat} (h2 : n ≤ l.length) : ∃ w, rslice H T.e v none (some (.int .i64 (n : Int))) none = some w ∧ Arr T H w (l.take n) := by
  obtain ⟨w, h1, h3⟩ := h.slice (Nat.zero_le n) h2 (a := none) rfl (bound_int _)
  exact ⟨w, h1, by simpa using h3⟩
/-- xs[n:] -/
theorem Arr.from (h : Arr T H v l) {n : Nat} (h2 : n ≤ l.length) : ∃ w, rslice H T.e v (some (.int .i64 (n : Int))) none none = some w ∧ Arr T H w (l.drop n) := by
  obtain ⟨w, h1, h3⟩ := h.slice h2 (Nat.le_refl _) (a := some (.int .i64 (n : Int))) (b := none) (bound_int _) rfl
  exact ⟨w, h1, by simpa using h3⟩

/-! ### Slices that are built -/

/-- A slice of blocks from n on, that nobody else refers to and that may be appended to. -/
structure Gr (n : Nat) (H : Heap) (e : Nat) (v : AV) (m : Nat) (cs : List AV) : Prop where
  small : m ≤ 9223372036854775807
  out : (v = .empty ∧ m = 0 ∧ cs = []) ∨ ∃ b off lim k, v = .slice b off m lim ∧ n ≤ b ∧ H[b]? = some k ∧ k.live = true ∧ k.e = e ∧ off + m * e ≤ k.cells.length ∧ cs = (k.cells.drop off).take (m * e) ∧ ((lim = none ∧ off + m * e = k.cells.length) ∨ lim = some m)

structure Acc {α : Type} (H0 : Heap) (T : Ty α) (H : Heap) (v : AV) (l : List α) : Prop where
  out : ∃ css, All2 (T.rel H0) css l ∧ Gr H0.length H T.e v l.length css.flatten

theorem Gr.sl {n e m : Nat} {cs : List AV} (h : Gr n H e v m cs) : Sl H e v m cs := by
  rcases h.out with g | ⟨b, off, lim, k, h1, h2, h3, h4, h5, h6, h7, h8⟩
  · exact ⟨h.small, .inl g⟩
  · refine ⟨h.small, .inr ⟨b, off, lim, k, h1, act_live h3 h4, h5, h6, ?_, h7⟩⟩
    rcases h8 with ⟨rfl, _⟩ | rfl <;> simp

theorem Gr.keep {n e m : Nat} {cs : List AV} (k : Keep H.length H H') (h : Gr n H e v m cs) : Gr n H' e v m cs := by
  rcases h.out with g | ⟨b, off, lim, kb, h1, h2, h3, h4⟩
  · exact ⟨h.small, .inl g⟩
  · exact ⟨h.small, .inr ⟨b, off, lim, kb, h1, h2, by rw [k.get b (get_lt h3)]; exact h3, h4⟩⟩

theorem Acc.keep (k : Keep H.length H H') (h : Acc H0 T H v l) : Acc H0 T H' v l := by
  obtain ⟨css, h1, h2⟩ := h
  exact ⟨css, h1, h2.keep k⟩
theorem Acc.arr (h : Acc H0 T H v l) (k : Keep H0.length H0 H) : Arr T H v l := by
  obtain ⟨css, h1, h2⟩ := h
  exact ⟨css, h1.mono fun _ _ => T.keep k, h2.sl⟩
theorem Acc.arrP (h : Acc H0 T H v l) (hT : T.Plain) : Arr T H v l := by
  obtain ⟨css, h1, h2⟩ := h
  exact ⟨css, h1.mono fun _ _ => hT, h2.sl⟩
theorem Acc.scal (h : Acc H0 T H v l) : Scal v := by obtain ⟨css, _, h⟩ := h; exact h.sl.scal
theorem Acc.len (h : Acc H0 T H v l) : lenA v = some l.length := by obtain ⟨css, _, h⟩ := h; exact h.sl.len
theorem Acc.nil : Acc H0 T H .empty ([] : List α) := ⟨⟨[], trivial, ⟨Nat.zero_le _, .inl ⟨rfl, rfl, rfl⟩⟩⟩⟩
/-- What a callee has built is ours. -/
theorem Acc.of {H1 : Heap} (hT : T.Plain) (hn : H0.length ≤ H1.length) (h : Acc H1 T H v l) : Acc H0 T H v l := by
  obtain ⟨css, h1, h2⟩ := h
  refine ⟨css, h1.mono fun _ _ => hT, ?_⟩
  rcases h2.out with h | ⟨b, off, lim, kb, g1, g2, g3⟩
  · exact ⟨h2.small, .inl h⟩
  · exact ⟨h2.small, .inr ⟨b, off, lim, kb, g1, by omega, g3⟩⟩

theorem sl_cells {e m : Nat} {cs : List AV} (h : Sl H e v m cs) : sliceLen v = some m ∧ sliceCells H e m v = some cs := by
  rcases h.out with ⟨rfl, rfl, rfl⟩ | ⟨b, off, lim, k, rfl, h2, h3, h4, h5, h6⟩
  · exact ⟨rfl, rfl⟩
  · refine ⟨rfl, ?_⟩
    show (if m = 0 then some [] else if m < m then none else match H.act b with | some k => if off + m * e ≤ k.cells.length then some ((k.cells.drop off).take (m * e)) else none | none => none) = _
    by_cases hm : m = 0
    · subst hm; rw [if_pos rfl, h6]; simp
    · rw [if_neg hm, if_neg (Nat.lt_irrefl _), h2]
      simp only
      rw [if_pos h4, h6]

/-- An append to a slice of ours. -/
theorem Gr.append {n e m j : Nat} {cs ys : List AV} {x y : AV} {fl : Nat} {free : Bool} {bytes : Nat} (h : Gr n H e x m cs) (hy : Sl H e y j ys) (hn : n ≤ H.length) (hfl : fl ≤ n) (hs : ys.all AV.scalar = true) (hlen : m + j ≤ 2 ^ 30) (hb : bytes ≤ 4096) :
    ∃ v H', appA fl free e bytes H x y = some (v, H') ∧ Gr n H' e v (m + j) (cs ++ ys) ∧ Keep n H H' ∧ (∀ b, b < H.length → (∀ off k lim, x ≠ .slice b off k lim) → H'[b]? = H[b]?) := by
  obtain ⟨c1, c2⟩ := sl_cells hy
  have hysl : ys.length = j * e := by
    rcases hy.out with ⟨rfl, rfl, rfl⟩ | ⟨b, off, lim, k, rfl, h2, h3, h4, h5, h6⟩
    · simp
    · rw [h6, List.length_take, List.length_drop]; omega
  have hstart : appA fl free e bytes H x y = rappend fl free e bytes H x j ys := by
    show (match sliceLen y with | some k => (sliceCells H e k y).bind fun xs => rappend fl free e bytes H x k xs | none => none) = _
    rw [c1]; simp only [c2, Option.bind_some]
  rw [hstart]
  have hsz : (m + j + (m + j) / 4 + 192) * bytes ≤ 2 ^ 48 := by
    have h1 : m + j + (m + j) / 4 + 192 ≤ 2 ^ 31 := by omega
    calc (m + j + (m + j) / 4 + 192) * bytes ≤ 2 ^ 31 * 4096 := Nat.mul_le_mul h1 hb
      _ ≤ 2 ^ 48 := by decide
  have hsz2 : j * bytes ≤ 2 ^ 48 := by
    calc j * bytes ≤ 2 ^ 30 * 4096 := Nat.mul_le_mul (by omega) hb
      _ ≤ 2 ^ 48 := by decide
  unfold rappend
  by_cases hj : j = 0
  · subst hj
    have : ys = [] := List.eq_nil_of_length_eq_zero (by omega)
    subst this
    rw [if_pos rfl]
    rcases h.out with ⟨rfl, rfl, rfl⟩ | ⟨b, off, lim, k, rfl, h2⟩
    · exact ⟨.empty, H, rfl, ⟨by decide, .inl ⟨rfl, rfl, rfl⟩⟩, Keep.rfl' hn, fun _ _ _ => rfl⟩
    · exact ⟨_, H, rfl, by simpa using h, Keep.rfl' hn, fun _ _ _ => rfl⟩
  · rw [if_neg hj]
    rcases h.out with ⟨rfl, rfl, rfl⟩ | ⟨b, off, lim, k, rfl, h2, h3, h4, h5, h6, h7, h8⟩
    · simp only
      rw [if_pos ⟨hsz2, by omega⟩]
      refine ⟨_, _, rfl, ⟨by omega, .inr ⟨H.length, 0, none, { cells := ys, e }, by rw [Nat.zero_add], hn, snoc_end _ _, rfl, rfl, by simp [hysl], ?_, .inl ⟨rfl, by simp [hysl]⟩⟩⟩, (Keep.app H _).less hn, fun b hb _ => List.getElem?_append_left hb⟩
      rw [List.drop_zero, Nat.zero_add, ← hysl, List.take_length]; rfl
    · simp only [act_live h3 h4]
      rw [if_pos ⟨h5, h6, hsz, by omega⟩, if_pos h4]
      have hbl := get_lt h3
      rcases h8 with ⟨rfl, h8⟩ | rfl
      · simp only
        rw [if_pos h8]
        unfold rappendTop
        rw [if_pos ⟨by omega, hs⟩]
        have hlen' : (k.cells.drop off).length = m * e := by rw [List.length_drop]; omega
        refine ⟨_, _, rfl, ⟨by omega, .inr ⟨H.length, 0, none, { cells := k.cells.drop off ++ ys, e }, rfl, hn, ?_, rfl, rfl, ?_, ?_, .inl ⟨rfl, ?_⟩⟩⟩, ⟨hn, by simp, fun b' hb' => ?_⟩, fun b' hb' hne => ?_⟩
        · rw [List.getElem?_append_right (by simp)]; simp
        · simp [hysl, hlen', Nat.add_mul]
        · rw [List.drop_zero, h7, List.take_of_length_le (l := k.cells.drop off) (by omega), List.take_of_length_le]; simp [hysl, hlen', Nat.add_mul]
        · simp [hysl, hlen', Nat.add_mul]
        · rw [List.getElem?_append_left (by simp; omega), List.getElem?_set_ne (by omega)]
        · have : b' ≠ b := fun e => hne _ _ _ (by rw [e])
          rw [List.getElem?_append_left (by simpa using hb'), List.getElem?_set_ne (Ne.symm this)]
      · simp only
        rw [if_neg (by omega)]
        have hlen' : ((k.cells.drop off).take (m * e)).length = m * e := by rw [List.length_take, List.length_drop]; omega
        refine ⟨_, _, rfl, ⟨by omega, .inr ⟨H.length, 0, none, { cells := (k.cells.drop off).take (m * e) ++ ys, e }, rfl, hn, snoc_end _ _, rfl, rfl, ?_, ?_, .inl ⟨rfl, ?_⟩⟩⟩, (Keep.app H _).less hn, fun b' hb' _ => List.getElem?_append_left hb'⟩
        · simp [hysl, hlen', Nat.add_mul]
        · rw [List.drop_zero, h7, List.take_of_length_le (l := _ ++ _)]; simp [hysl, Nat.add_mul]; omega
        · simp [hysl, hlen', Nat.add_mul]

theorem Acc.append {m : List α} {x y : AV} {fl : Nat} {free : Bool} {bytes : Nat} (h : Acc H0 T H x l) {css : List (List AV)} (hm : All2 (T.rel H0) css m) (hy : Sl H T.e y m.length css.flatten) (k : Keep H0.length H0 H) (hfl : fl ≤ H0.length) (hlen : l.length + m.length ≤ 2 ^ 30) (hb : bytes ≤ 4096) :
    ∃ v H', appA fl free T.e bytes H x y = some (v, H') ∧ Acc H0 T H' v (l ++ m) ∧ Keep H0.length H0 H' ∧ (∀ b, b < H.length → (∀ off k lim, x ≠ .slice b off k lim) → H'[b]? = H[b]?) := by
  obtain ⟨cs, h1, h2⟩ := h
  obtain ⟨v, H', a1, a2, a3, a4⟩ := h2.append hy (Nat.le_trans k.low k.len) hfl hm.scals hlen hb
  refine ⟨v, H', a1, ⟨cs ++ css, h1.app hm, ?_⟩, k.tr a3, a4⟩
  rw [List.flatten_append, List.length_append]; exact a2

/-- A literal's row. -/
theorem NewB.sl {e b n : Nat} {cs : List AV} (h : NewB H e cs b H') (hn : cs.length = n * e) (hs : n ≤ 9223372036854775807 := by decide) : Sl H' e (.slice b 0 n (some n)) n cs :=
  ⟨hs, .inr ⟨b, 0, some n, _, rfl, act_live h.get rfl, rfl, by simp [hn], by simp, by rw [List.drop_zero, ← hn, List.take_length]⟩⟩
theorem NewB.gr {e b n : Nat} {cs : List AV} (h : NewB H e cs b H') (hn : cs.length = n * e) (h0 : H0.length ≤ H.length) (hs : n ≤ 9223372036854775807 := by decide) : Gr H0.length H' e (.slice b 0 n (some n)) n cs :=
  ⟨hs, .inr ⟨b, 0, some n, _, rfl, by rw [h.b_eq]; exact h0, h.get, rfl, rfl, by simp [hn], by rw [List.drop_zero, ← hn, List.take_length], .inr rfl⟩⟩

/-- A literal of plain elements. -/
theorem NewB.acc {b : Nat} {cs : List AV} {css : List (List AV)} (h : NewB H T.e cs b H') (hl : All2 (T.rel H0) css l) (hc : cs = css.flatten) (h0 : H0.length ≤ H.length) {n : Nat} (hn : n = l.length) (hs : n ≤ 9223372036854775807 := by decide) : Acc H0 T H' (.slice b 0 n (some n)) l := by
  subst hn
  refine ⟨css, hl, ?_⟩
  rw [← hc]
  exact h.gr (by rw [hc, flat_len hl.lens, hl.len]) h0 hs

/-- append(x, a) -/
theorem Acc.push {x : AV} {fl : Nat} {free : Bool} {bytes b : Nat} {cs : List AV} {a : α} {H1 : Heap} (h : Acc H0 T H x l) (ha : T.rel H0 cs a) (hn : NewB H T.e cs b H1) (k : Keep H0.length H0 H) (hfl : fl ≤ H0.length) (hlen : l.length + 1 ≤ 2 ^ 30) (hb : bytes ≤ 4096) :
    ∃ v H', appA fl free T.e bytes H1 x (.slice b 0 1 (some 1)) = some (v, H') ∧ Acc H0 T H' v (l ++ [a]) ∧ Keep H0.length H0 H' ∧ (∀ b, b < H.length → (∀ off k lim, x ≠ .slice b off k lim) → H'[b]? = H[b]?) := by
  have hc := T.len ha
  obtain ⟨v, H', a1, a2, a3, a4⟩ := (h.keep hn.keep).append (m := [a]) (css := [cs]) (fl := fl) (free := free) (bytes := bytes) ⟨ha, trivial⟩ (by
    have := hn.sl (n := 1) (by rw [hc, Nat.one_mul])
    simpa using this) (k.call hn.keep) hfl hlen hb
  refine ⟨v, H', a1, a2, a3, fun b hb hne => ?_⟩
  rw [a4 b (Nat.lt_of_lt_of_le hb hn.keep.len) hne, hn.keep.get b hb]

end

/-! ### The kinds of elements -/

def tInt : Ty Int where
  e := 1
  rel _ c a := c = [.int .i64 a]
  pos := by decide
  len h := by rw [h]; rfl
  scal h := by rw [h]; rfl
  keep _ h := h
theorem tInt.plain : tInt.Plain := fun h => h

abbrev Ints (H : Heap) (v : AV) (l : List Int) : Prop := Arr tInt H v l

def tBool : Ty Bool where
  e := 1
  rel _ c a := c = [.bool a]
  pos := by decide
  len h := by rw [h]; rfl
  scal h := by rw [h]; rfl
  keep _ h := h
theorem tBool.plain : tBool.Plain := fun h => h

def tStr : Ty ByteArray where
  e := 1
  rel _ c a := c = [.str a]
  pos := by decide
  len h := by rw [h]; rfl
  scal h := by rw [h]; rfl
  keep _ h := h
theorem tStr.plain : tStr.Plain := fun h => h

/-- Structs without slices: a list of cells for each value. -/
def tEnc {α : Type} (e : Nat) (enc : α → List AV) (pos : 0 < e) (len : ∀ a, (enc a).length = e) (scal : ∀ a, (enc a).all AV.scalar = true) : Ty α where
  e := e
  rel _ c a := c = enc a
  pos := pos
  len h := by rw [h]; exact len _
  scal h := by rw [h]; exact scal _
  keep _ h := h

def tArr {α : Type} (T : Ty α) : Ty (List α) where
  e := 1
  rel H c l := ∃ v, c = [v] ∧ Arr T H v l
  pos := by decide
  len h := by obtain ⟨v, rfl, _⟩ := h; rfl
  scal h := by obtain ⟨v, rfl, h⟩ := h; rw [List.all_cons, h.scal.2]; rfl
  keep k h := by obtain ⟨v, rfl, h⟩ := h; exact ⟨v, rfl, h.keep k⟩

theorem Arr.int {H : Heap} {v : AV} {l : List Int} (h : Arr tInt H v l) {i : Nat} (hi : i < l.length) : getA H 1 none v (i : Int) 0 = some (.int .i64 l[i]) := by
  obtain ⟨c, rfl, _, h3⟩ := h.get hi
  exact h3 0 _ rfl
theorem Arr.bool {H : Heap} {v : AV} {l : List Bool} (h : Arr tBool H v l) {i : Nat} (hi : i < l.length) : getA H 1 none v (i : Int) 0 = some (.bool l[i]) := by
  obtain ⟨c, rfl, _, h3⟩ := h.get hi
  exact h3 0 _ rfl
theorem Arr.str {H : Heap} {v : AV} {l : List ByteArray} (h : Arr tStr H v l) {i : Nat} (hi : i < l.length) : getA H 1 none v (i : Int) 0 = some (.str l[i]) := by
  obtain ⟨c, rfl, _, h3⟩ := h.get hi
  exact h3 0 _ rfl
theorem Arr.arr {α : Type} {T : Ty α} {H : Heap} {v : AV} {l : List (List α)} (h : Arr (tArr T) H v l) {i : Nat} (hi : i < l.length) : ∃ w, getA H 1 none v (i : Int) 0 = some w ∧ Arr T H w l[i] := by
  obtain ⟨c, ⟨w, rfl, hw⟩, _, h3⟩ := h.get hi
  exact ⟨w, h3 0 _ rfl, hw⟩
/-- A struct's element, whole and by its cells. -/
theorem Arr.enc {α : Type} {e : Nat} {enc : α → List AV} {pos : 0 < e} {len : ∀ a, (enc a).length = e} {scal : ∀ a, (enc a).all AV.scalar = true} {H : Heap} {v : AV} {l : List α} (h : Arr (tEnc e enc pos len scal) H v l) {i : Nat} (hi : i < l.length) : getA H e (some e) v (i : Int) 0 = some (.agg (enc l[i])) := by
  obtain ⟨c, rfl, h3, _⟩ := h.get hi
  exact h3
theorem Arr.cell {α : Type} {e : Nat} {enc : α → List AV} {pos : 0 < e} {len : ∀ a, (enc a).length = e} {scal : ∀ a, (enc a).all AV.scalar = true} {H : Heap} {v : AV} {l : List α} (h : Arr (tEnc e enc pos len scal) H v l) {i : Nat} (hi : i < l.length) (o : Nat) {x : AV} (hx : (enc l[i])[o]? = some x) : getA H e none v (i : Int) o = some x := by
  obtain ⟨c, rfl, _, h3⟩ := h.get hi
  exact h3 o x hx

end Go.RM
namespace Go.RM
set_option linter.unusedVariables false

/-! ### Single cells -/

/-- Block b holds v, and may be written. -/
structure Cell (H : Heap) (b : Nat) (v : AV) : Prop where
  out : ∃ k, H[b]? = some k ∧ k.live = true ∧ k.cells = [v]

theorem Cell.lt {H : Heap} {b : Nat} {v : AV} (h : Cell H b v) : b < H.length := by obtain ⟨k, h1, _⟩ := h; exact get_lt h1
theorem Cell.load {H : Heap} {b : Nat} {v : AV} (h : Cell H b v) : rload H none b 0 = some v := by
  obtain ⟨k, h1, h2, h3⟩ := h
  unfold rload; rw [act_live h1 h2]; simp [h3]
theorem Cell.keep {H H' : Heap} {b : Nat} {v : AV} (k : Keep H.length H H') (h : Cell H b v) : Cell H' b v := by
  obtain ⟨kb, h1, h2⟩ := h
  exact ⟨kb, by rw [k.get b (get_lt h1)]; exact h1, h2⟩
theorem NewB.cell {H H' : Heap} {e b : Nat} {v : AV} (h : NewB H e [v] b H') : Cell H' b v := ⟨_, h.get, rfl, rfl⟩

/-- All is as it was, but for block b. -/
structure KeepX (b : Nat) (H H' : Heap) : Prop where
  len : H'.length = H.length
  get : ∀ b', b' ≠ b → H'[b']? = H[b']?

theorem KeepX.keep {b n : Nat} {H H' : Heap} (k : KeepX b H H') (h1 : n ≤ b) (h2 : n ≤ H.length) : Keep n H H' := ⟨h2, by rw [k.len]; exact Nat.le_refl _, fun b' hb => k.get b' (by omega)⟩
theorem KeepX.cell {b b' : Nat} {H H' : Heap} {v : AV} (k : KeepX b H H') (h : Cell H b' v) (hne : b' ≠ b) : Cell H' b' v := by
  obtain ⟨kb, h1, h2⟩ := h
  exact ⟨kb, by rw [k.get b' hne]; exact h1, h2⟩
theorem KeepX.gr {b n e m : Nat} {H H' : Heap} {v : AV} {cs : List AV} (k : KeepX b H H') (h : Gr n H e v m cs) (hb : b < n) : Gr n H' e v m cs := by
  rcases h.out with g | ⟨b', off, lim, kb, h1, h2, h3, h4⟩
  · exact ⟨h.small, .inl g⟩
  · exact ⟨h.small, .inr ⟨b', off, lim, kb, h1, h2, by rw [k.get b' (by omega)]; exact h3, h4⟩⟩
theorem KeepX.acc {α : Type} {T : Ty α} {b : Nat} {H H' H0 : Heap} {v : AV} {l : List α} (k : KeepX b H H') (h : Acc H0 T H v l) (hb : b < H0.length) : Acc H0 T H' v l := by
  obtain ⟨css, h1, h2⟩ := h
  exact ⟨css, h1, k.gr h2 hb⟩

theorem Cell.put {fl : Nat} {H : Heap} {b : Nat} {v w : AV} (h : Cell H b v) (hfl : fl ≤ b) (hw : Scal w) : ∃ H', putA fl H b 0 1 w = some H' ∧ Cell H' b w ∧ KeepX b H H' := by
  obtain ⟨k, h1, h2, h3⟩ := h
  refine ⟨H.set b { k with cells := splice k.cells 0 [w], clean := false }, ?_, ⟨{ k with cells := splice k.cells 0 [w], clean := false }, ?_, h2, ?_⟩, ⟨by simp, fun b' hne => by rw [List.getElem?_set_ne (Ne.symm hne)]⟩⟩
  · unfold putA rput
    rw [hw.1, if_pos (by rfl)]
    simp only [Heap.blk, h1, h2, if_true]
    rw [if_pos ⟨hfl, by simp [h3], by rw [List.all_cons, hw.2]; rfl⟩]
  · rw [List.getElem?_set_self (get_lt h1)]
  · simp [h3, splice]

end Go.RM
namespace Go.RM
set_option linter.unusedVariables false
set_option linter.unusedSimpArgs false

/-! ### A slice to which an append may be tried, and tried again -/

structure GrR (n : Nat) (H : Heap) (e : Nat) (v : AV) (m : Nat) (cs : List AV) : Prop where
  small : m ≤ 9223372036854775807
  out : (v = .empty ∧ m = 0 ∧ cs = []) ∨ ∃ b off k, v = .slice b off m none ∧ n ≤ b ∧ H.act b = some k ∧ (k.live = true ∨ ∃ c, H.rev k = some c ∧ n ≤ c) ∧ k.e = e ∧ off + m * e = k.cells.length ∧ cs = k.cells.drop off

structure AccR {α : Type} (H0 : Heap) (T : Ty α) (H : Heap) (v : AV) (l : List α) : Prop where
  out : ∃ css, All2 (T.rel H0) css l ∧ GrR H0.length H T.e v l.length css.flatten

theorem rev_get {H : Heap} {k : Blk} {c : Nat} (h : H.rev k = some c) : k.live = false ∧ k.kid = some c ∧ ∃ kc, H[c]? = some kc ∧ (kc.live && kc.clean) = true := by
  obtain ⟨h1, h2⟩ := rev_kid h
  unfold Heap.rev at h
  simp only [h1, h2] at h
  cases hg : H[c]? with
  | none => simp [hg] at h
  | some kc =>
    simp only [hg] at h
    by_cases hc : (kc.live && kc.clean) = true
    · exact ⟨h1, h2, kc, rfl, hc⟩
    · simp [hc] at h

theorem rev_mk {H : Heap} {k : Blk} {c : Nat} {kc : Blk} (h1 : k.live = false) (h2 : k.kid = some c) (h3 : H[c]? = some kc) (h4 : (kc.live && kc.clean) = true) : H.rev k = some c := by
  unfold Heap.rev
  simp [h1, h2, h3, h4]

theorem Keep.rev {H H' : Heap} (h : Keep H.length H H') {k : Blk} {c : Nat} (hr : H.rev k = some c) : H'.rev k = some c := by
  obtain ⟨h1, h2, kc, h3, h4⟩ := rev_get hr
  exact rev_mk h1 h2 (by rw [h.get c (get_lt h3)]; exact h3) h4

section
variable {α : Type} {T : Ty α} {H H' H0 : Heap} {v : AV} {l : List α}

theorem GrR.keep {n e m : Nat} {cs : List AV} (k : Keep H.length H H') (h : GrR n H e v m cs) : GrR n H' e v m cs := by
  rcases h.out with g | ⟨b, off, kb, h1, h2, h3, h4, h5⟩
  · exact ⟨h.small, .inl g⟩
  · refine ⟨h.small, .inr ⟨b, off, kb, h1, h2, k.all h3, ?_, h5⟩⟩
    rcases h4 with h4 | ⟨c, h4, h6⟩
    · exact .inl h4
    · exact .inr ⟨c, k.rev h4, h6⟩
theorem AccR.keep (k : Keep H.length H H') (h : AccR H0 T H v l) : AccR H0 T H' v l := by
  obtain ⟨css, h1, h2⟩ := h
  exact ⟨css, h1, h2.keep k⟩

theorem GrR.sl {n e m : Nat} {cs : List AV} (h : GrR n H e v m cs) : Sl H e v m cs := by
  rcases h.out with g | ⟨b, off, kb, h1, h2, h3, h4, h5, h6, h7⟩
  · exact ⟨h.small, .inl g⟩
  · exact ⟨h.small, .inr ⟨b, off, none, kb, h1, h3, h5, by omega, by simp, by rw [h7, List.take_of_length_le]; rw [List.length_drop]; omega⟩⟩
theorem AccR.arr (h : AccR H0 T H v l) (k : Keep H0.length H0 H) : Arr T H v l := by
  obtain ⟨css, h1, h2⟩ := h
  exact ⟨css, h1.mono fun _ _ => T.keep k, h2.sl⟩
theorem AccR.nil : AccR H0 T H .empty ([] : List α) := ⟨⟨[], trivial, ⟨Nat.zero_le _, .inl ⟨rfl, rfl, rfl⟩⟩⟩⟩

theorem GrR.append {n e m j : Nat} {cs ys : List AV} {x y : AV} {fl : Nat} {bytes : Nat} (h : GrR n H e x m cs) (hy : Sl H e y j ys) (hj : 0 < j) (hn : n ≤ H.length) (hfl : fl ≤ n) (hs : ys.all AV.scalar = true) (hlen : m + j ≤ 2 ^ 30) (hb : bytes ≤ 4096) :
    ∃ v H', appA fl true e bytes H x y = some (v, H') ∧ GrR n H' e v (m + j) (cs ++ ys) ∧ GrR n H' e x m cs ∧ Keep n H H' := by
  obtain ⟨c1, c2⟩ := sl_cells hy
  have hysl : ys.length = j * e := by
    rcases hy.out with ⟨rfl, rfl, rfl⟩ | ⟨b, off, lim, k, rfl, h2, h3, h4, h5, h6⟩
    · simp
    · rw [h6, List.length_take, List.length_drop]; omega
  have hstart : appA fl true e bytes H x y = rappend fl true e bytes H x j ys := by
    show (match sliceLen y with | some k => (sliceCells H e k y).bind fun xs => rappend fl true e bytes H x k xs | none => none) = _
    rw [c1]; simp only [c2, Option.bind_some]
  rw [hstart]
  have hsz : (m + j + (m + j) / 4 + 192) * bytes ≤ 2 ^ 48 := by
    have h1 : m + j + (m + j) / 4 + 192 ≤ 2 ^ 31 := by omega
    calc (m + j + (m + j) / 4 + 192) * bytes ≤ 2 ^ 31 * 4096 := Nat.mul_le_mul h1 hb
      _ ≤ 2 ^ 48 := by decide
  have hsz2 : j * bytes ≤ 2 ^ 48 := by
    calc j * bytes ≤ 2 ^ 30 * 4096 := Nat.mul_le_mul (by omega) hb
      _ ≤ 2 ^ 48 := by decide
  unfold rappend
  rw [if_neg (by omega)]
  rcases h.out with ⟨rfl, rfl, rfl⟩ | ⟨b, off, k, rfl, h2, h3, h4, h5, h6, h7⟩
  · simp only
    rw [if_pos ⟨hsz2, by omega⟩]
    refine ⟨_, _, rfl, ⟨by omega, .inr ⟨H.length, 0, { cells := ys, e }, by rw [Nat.zero_add], hn, act_live (snoc_end _ _) rfl, .inl rfl, rfl, by simp [hysl], by simp⟩⟩, ⟨Nat.zero_le _, .inl ⟨rfl, rfl, rfl⟩⟩, (Keep.app H _).less hn⟩
  · simp only [h3]
    rw [if_pos ⟨h5, by omega, hsz, by omega⟩]
    have hbl := get_lt (act_get h3)
    -- either way: a new block, and the old one given up for it
    have main : ∀ G : Heap, G.length = H.length → (∀ b', b' < n → G[b']? = H[b']?) → ∃ v H', rappendTop fl true e G b off m j k ys = some (v, H') ∧ GrR n H' e v (m + j) (cs ++ ys) ∧ GrR n H' e (.slice b off m none) m cs ∧ Keep n H H' := fun G hG hGk => by
      unfold rappendTop
      rw [if_pos ⟨by omega, hs⟩]
      have hg1 : (G.set b { k with live := false, kid := if true = true then some G.length else none } ++ [{ cells := k.cells.drop off ++ ys, e }])[G.length]? = some { cells := k.cells.drop off ++ ys, e } := by
        rw [List.getElem?_append_right (by simp)]; simp
      have hg2 : (G.set b { k with live := false, kid := if true = true then some G.length else none } ++ [{ cells := k.cells.drop off ++ ys, e }])[b]? = some { k with live := false, kid := some G.length } := by
        rw [List.getElem?_append_left (by simp; omega), List.getElem?_set_self (by omega)]; rfl
      have hlen' : (k.cells.drop off).length = m * e := by rw [List.length_drop]; omega
      have hrev := rev_mk (H := G.set b { k with live := false, kid := if true = true then some G.length else none } ++ [{ cells := k.cells.drop off ++ ys, e }]) (k := { k with live := false, kid := some G.length }) rfl rfl hg1 rfl
      refine ⟨_, _, rfl, ⟨by omega, .inr ⟨G.length, 0, _, rfl, by omega, act_live hg1 rfl, .inl rfl, rfl, by simp [hysl, hlen', Nat.add_mul], by rw [List.drop_zero, h7]⟩⟩,
        ⟨h.small, .inr ⟨b, off, _, rfl, h2, act_of hg2 (.inr (by rw [hrev]; rfl)), .inr ⟨_, hrev, by omega⟩, h5, h6, h7⟩⟩, ⟨hn, by simp; omega, fun b' hb' => ?_⟩⟩
      rw [List.getElem?_append_left (by simp; omega), List.getElem?_set_ne (by omega), hGk b' hb']
    rcases h4 with h4 | ⟨c, h4, hc⟩
    · rw [if_pos h4, if_pos h6]
      exact main H rfl fun _ _ => rfl
    · obtain ⟨g1, g2, kc, g3, g4⟩ := rev_get h4
      rw [if_neg (by simp [g1])]
      simp only [h4]
      rw [if_pos ⟨trivial, h6, by omega⟩]
      exact main (H.kill c) (by rw [kill_length]) fun b' hb' => kill_ne (by omega)

theorem AccR.push {x : AV} {fl : Nat} {bytes b : Nat} {cs : List AV} {a : α} {H1 : Heap} (h : AccR H0 T H x l) (ha : T.rel H0 cs a) (hn : NewB H T.e cs b H1) (k : Keep H0.length H0 H) (hfl : fl ≤ H0.length) (hlen : l.length + 1 ≤ 2 ^ 30) (hb : bytes ≤ 4096) :
    ∃ v H', appA fl true T.e bytes H1 x (.slice b 0 1 (some 1)) = some (v, H') ∧ AccR H0 T H' v (l ++ [a]) ∧ AccR H0 T H' x l ∧ Keep H0.length H0 H' := by
  have hc := T.len ha
  obtain ⟨css, h1, h2⟩ := h
  have k1 := k.call hn.keep
  obtain ⟨v, H', a1, a2, a3, a4⟩ := (h2.keep hn.keep).append (fl := fl) (bytes := bytes) (hn.sl (n := 1) (by rw [hc, Nat.one_mul])) (by omega) (Nat.le_trans k1.low k1.len) hfl (T.scal ha) hlen hb
  refine ⟨v, H', a1, ⟨css ++ [cs], h1.app ⟨ha, trivial⟩, ?_⟩, ⟨css, h1, a3⟩, k1.tr a4⟩
  rw [List.flatten_append, List.length_append]; simpa using a2

end
end Go.RM
namespace Go.RM

/-- A literal's row, as a list. -/
theorem NewB.arr {α : Type} {T : Ty α} {H H' : Heap} {b n : Nat} {cs : List AV} {l : List α} (h : NewB H T.e cs b H') (css : List (List AV)) (hc : cs = css.flatten) (hl : All2 (T.rel H) css l) (hn : n = l.length) (hs : n ≤ 9223372036854775807 := by decide) : Arr T H' (.slice b 0 n (some n)) l := by
  subst hn
  have hl' := hl.mono fun _ _ => T.keep h.keep
  refine ⟨css, hl', ?_⟩
  rw [← hc]
  exact h.sl (by rw [hc, flat_len hl.lens, hl.len]) hs

/-- A literal row of numbers. -/
theorem NewB.ints {H H' : Heap} {b n : Nat} {cs : List AV} (h : NewB H 1 cs b H') (l : List Int) (hc : cs = l.map fun x => .int .i64 x) (hn : n = l.length) (hs : n ≤ 9223372036854775807 := by decide) : Ints H' (.slice b 0 n (some n)) l := by
  refine NewB.arr (T := tInt) h (l.map fun x => [.int .i64 x]) ?_ ?_ hn hs
  · rw [hc]
    clear hc h hn
    induction l with
    | nil => rfl
    | cons a l ih => simp only [List.map_cons, List.flatten_cons, List.singleton_append, ih]
  · clear hc h hn
    induction l with
    | nil => trivial
    | cons a l ih => exact ⟨rfl, ih⟩

end Go.RM
namespace Go.RM
set_option linter.unusedVariables false

/-! ### A row of numbers that is written -/

structure Row (H : Heap) (b : Nat) (l : List Int) : Prop where
  out : ∃ k, H[b]? = some k ∧ k.live = true ∧ k.e = 1 ∧ k.cells = l.map fun x => AV.int .i64 x
  small : l.length ≤ 9223372036854775807

def rowV (b n : Nat) : AV := .slice b 0 n (some n)

theorem Row.lt {H : Heap} {b : Nat} {l : List Int} (h : Row H b l) : b < H.length := by obtain ⟨k, h1, _⟩ := h.out; exact get_lt h1
theorem Row.keep {H H' : Heap} {b : Nat} {l : List Int} (k : Keep H.length H H') (h : Row H b l) : Row H' b l := by
  obtain ⟨kb, h1, h2⟩ := h.out
  exact ⟨⟨kb, by rw [k.get b (get_lt h1)]; exact h1, h2⟩, h.small⟩
theorem zeros_map (n : Nat) (x : Int) : zeros n [.int .i64 x] = (List.replicate n x).map fun x => AV.int .i64 x := by
  unfold zeros
  induction n with
  | zero => rfl
  | succ n ih => rw [List.replicate_succ, List.flatten_cons, List.replicate_succ, List.map_cons, ih]; rfl
theorem Row.new {H H' : Heap} {b n : Nat} {x : Int} (h : NewB H 1 (zeros n [.int .i64 x]) b H') (hn : n ≤ 9223372036854775807) : Row H' b (List.replicate n x) :=
  ⟨⟨_, h.get, rfl, rfl, zeros_map n x⟩, by simpa using hn⟩
theorem Row.flat (l : List Int) : (l.map fun x => AV.int .i64 x) = (l.map fun x => [AV.int .i64 x]).flatten := by
  induction l with
  | nil => rfl
  | cons a l ih => simp only [List.map_cons, List.flatten_cons, List.singleton_append, ih]
theorem All2.ints {H : Heap} (l : List Int) : All2 (tInt.rel H) (l.map fun x => [AV.int .i64 x]) l := by
  induction l with
  | nil => trivial
  | cons a l ih => exact ⟨rfl, ih⟩
theorem Row.acc {H0 H : Heap} {b n : Nat} {l : List Int} (h : Row H b l) (hb : H0.length ≤ b) (hn : n = l.length) : Acc H0 tInt H (rowV b n) l := by
  subst hn
  obtain ⟨k, h1, h2, h3, h4⟩ := h.out
  have hl : l.length * 1 = k.cells.length := by rw [h4]; simp
  refine ⟨_, All2.ints l, h.small, .inr ⟨b, 0, some l.length, k, rfl, hb, h1, h2, h3, ?_, ?_, .inr rfl⟩⟩
  · show 0 + l.length * 1 ≤ _; omega
  · show _ = (k.cells.drop 0).take (l.length * 1)
    rw [List.drop_zero, hl, List.take_length, h4, Row.flat]
theorem Row.arr {H : Heap} {b n : Nat} {l : List Int} (h : Row H b l) (hn : n = l.length) : Ints H (rowV b n) l :=
  (h.acc (H0 := []) (Nat.zero_le _) hn).arrP tInt.plain
theorem Row.ptr {b n i : Nat} (h : i < n) : ptrA 1 (rowV b n) (i : Int) = some (b, i) := by
  show (if (0 : Int) ≤ i ∧ (i : Int) < n then some (b, 0 + (i : Int).toNat * 1) else none) = _
  rw [if_pos (by omega), Int.toNat_natCast, Nat.zero_add, Nat.mul_one]
theorem Row.put {fl : Nat} {H : Heap} {b i : Nat} {l : List Int} {x : Int} (h : Row H b l) (hi : i < l.length) (hfl : fl ≤ b) : ∃ H', putA fl H b i 1 (.int .i64 x) = some H' ∧ Row H' b (l.set i x) ∧ KeepX b H H' := by
  obtain ⟨k, h1, h2, h3, h4⟩ := h.out
  refine ⟨H.set b { k with cells := splice k.cells i [.int .i64 x], clean := false }, ?_, ⟨⟨{ k with cells := splice k.cells i [.int .i64 x], clean := false }, ?_, h2, h3, ?_⟩, by simpa using h.small⟩, ⟨by simp, fun b' hne => by rw [List.getElem?_set_ne (Ne.symm hne)]⟩⟩
  · unfold putA rput
    show (if ([AV.int .i64 x] : List AV).length = 1 then _ else none) = _
    rw [if_pos (by rfl)]
    simp only [Heap.blk, h1, h2, if_true]
    show (if fl ≤ b ∧ i + ([AV.int .i64 x] : List AV).length ≤ k.cells.length ∧ ([AV.int .i64 x] : List AV).all AV.scalar = true then _ else none) = _
    rw [if_pos ⟨hfl, by simp [h4]; omega, by rfl⟩]
    rfl
  · rw [List.getElem?_set_self (get_lt h1)]
  · simp only
    apply List.ext_getElem?
    intro j
    rw [splice_get (by simp [h4]; omega), h4]
    simp only [List.length_singleton, List.getElem?_map, List.getElem?_set]
    by_cases e : i = j
    · subst e; simp [hi]
    · rw [if_neg (by omega), if_neg e]
theorem KeepX.row {b b' : Nat} {H H' : Heap} {l : List Int} (k : KeepX b H H') (h : Row H b' l) (hne : b' ≠ b) : Row H' b' l := by
  obtain ⟨kb, h1, h2⟩ := h.out
  exact ⟨⟨kb, by rw [k.get b' hne]; exact h1, h2⟩, h.small⟩

end Go.RM

/-
  The reference's functions on lists of numbers: what they return.
-/
namespace Go.RM
set_option linter.unusedSimpArgs false
set_option linter.unusedVariables false

abbrev i64 (n : Int) : AV := .int .i64 n
abbrev flt (c i : Int) : AV := .agg [.int .i64 c, .int .i64 i]

/-- One more, for a place in a list. -/
theorem wsucc {i n : Nat} (h : i < n) (hn : n ≤ 9223372036854775807) : IntKind.wrap .i64 ((i : Int) + 1) = ((i + 1 : Nat) : Int) := by
  rw [wrap64 (by omega) (by omega)]; omega
variable {F : Nat → Option RFunc}

abbrev FFaultC (F : Nat → Option RFunc) (f : Nat) : Prop := ∀ {fl H Q c i}, (∀ H', Keep H.length H H' → Q (flt c i) H') → Ret F fl f [i64 c, i64 i] H Q
theorem fFault_c {f : Nat} (hF : F f = some rf_FFault) : FFaultC F f := fun hq => by
  refine v_FFault hF _ _ ?_
  intro H2 h; exact hq H2 h.keep

abbrev FHasC (F : Nat → Option RFunc) (f : Nat) : Prop := ∀ {fl H Q v l n}, Ints H v l → Q (.bool (decide (n ∈ l))) H → Ret F fl f [v, i64 n] H Q

theorem mem_drop {n : Int} {l : List Int} {i : Nat} (h : i < l.length) : (n ∈ l.drop i) ↔ (l[i] = n ∨ n ∈ l.drop (i + 1)) := by
  rw [List.drop_eq_getElem_cons h, List.mem_cons, eq_comm]

theorem fHas_c {f : Nat} (hF : F f = some rf_FHas) : FHasC F f := fun {fl H Q v l n} hv hq => by
  refine v_FHas hF _ _ ?_
  have hs := hv.small
  refine ⟨fun m v => ∃ i : Nat, v = i ∧ i + m = l.length ∧ (n ∈ l ↔ n ∈ l.drop i), l.length, ⟨0, rfl, by omega, by simp⟩, ?_⟩
  rintro m _ ⟨i, rfl, hm, hi⟩
  refine ⟨_, hv.len, fun hlt => ?_, fun hge => ?_⟩
  · have hil : i < l.length := by omega
    refine ⟨_, hv.int hil, fun he => ?_, fun hne => ?_⟩
    · have : n ∈ l := hi.2 ((mem_drop hil).2 (.inl he))
      rw [decide_eq_true this] at hq; exact hq
    · refine ⟨m - 1, by omega, i + 1, wsucc hil hs, by omega, hi.trans ((mem_drop hil).trans ?_)⟩
      simp [hne]
  · have : ¬ n ∈ l := fun h => by
      have := hi.1 h
      rw [List.drop_eq_nil_of_le (by omega)] at this; cases this
    rw [decide_eq_false this] at hq; exact hq

abbrev FEqualIntsC (F : Nat → Option RFunc) (f : Nat) : Prop := ∀ {fl H Q a b l m}, Ints H a l → Ints H b m → Q (.bool (decide (l = m))) H → Ret F fl f [a, b] H Q
theorem fEqualInts_c {f : Nat} (hF : F f = some rf_FEqualInts) : FEqualIntsC F f := fun {fl H Q a b l m} ha hb hq => by
  refine v_FEqualInts hF _ _ ?_
  have hs := ha.small
  refine ⟨_, ha.len, _, hb.len, fun hne => ?_, fun he => ?_⟩
  · rw [decide_eq_false (fun h => hne (by rw [h]))] at hq; exact hq
  · have he : l.length = m.length := by omega
    refine ⟨fun k v => ∃ i : Nat, v = i ∧ i + k = l.length ∧ (l.take i = m.take i), l.length, ⟨0, rfl, by omega, by simp⟩, ?_⟩
    rintro k _ ⟨i, rfl, hk, hi⟩
    refine ⟨_, ha.len, fun hlt => ?_, fun hge => ?_⟩
    · have hil : i < l.length := by omega
      refine ⟨_, ha.int hil, _, hb.int (by omega), fun hne => ?_, fun heq => ?_⟩
      · rw [decide_eq_false (fun h => hne (by subst h; rfl))] at hq; exact hq
      · refine ⟨k - 1, by omega, i + 1, wsucc hil hs, by omega, ?_⟩
        have heq : l[i] = m[i] := by omega
        rw [List.take_succ_eq_append_getElem hil, List.take_succ_eq_append_getElem (by omega), hi, heq]
    · rw [List.take_of_length_le (by omega), List.take_of_length_le (by omega)] at hi
      rw [decide_eq_true hi] at hq; exact hq

end Go.RM

/-
  Functions of package slices: what they return.
-/
namespace Go.RM
set_option linter.unusedSimpArgs false
set_option linter.unusedVariables false

/-- The first place of an element, as Go tells it. -/
def fidx {α : Type} (p : α → Bool) (l : List α) : Int := match l.findIdx? p with | some i => (i : Int) | none => -1

theorem fidx_nonneg {α : Type} (p : α → Bool) (l : List α) : decide (fidx p l ≥ 0) = l.any p := by
  unfold fidx
  cases h : l.findIdx? p with
  | none =>
    rw [List.findIdx?_eq_none_iff] at h
    simp only [ge_iff_le]
    have : l.any p = false := by rw [List.any_eq_false]; intro x hx; simp [h x hx]
    rw [this]; rfl
  | some i =>
    obtain ⟨h1, h2, _⟩ := List.findIdx?_eq_some_iff_getElem.1 h
    have : l.any p = true := List.any_eq_true.2 ⟨_, List.getElem_mem h1, h2⟩
    rw [this]; simp

theorem fidx_hit {α : Type} {p : α → Bool} {l : List α} {i : Nat} (h : i < l.length) (hp : p l[i] = true) (hn : ∀ x ∈ l.take i, p x = false) : fidx p l = i := by
  unfold fidx
  rw [List.findIdx?_eq_some_iff_getElem.2 ⟨h, hp, fun j hj => by
    have := hn l[j] (by rw [List.mem_take_iff_getElem]; exact ⟨j, by omega, rfl⟩)
    simp [this]⟩]
theorem fidx_none {α : Type} {p : α → Bool} {l : List α} (hn : ∀ x ∈ l, p x = false) : fidx p l = -1 := by
  unfold fidx
  rw [List.findIdx?_eq_none_iff.2 hn]

theorem take_step {α : Type} {p : α → Bool} {l : List α} {i : Nat} (h : i < l.length) (hp : p l[i] = false) (hn : ∀ x ∈ l.take i, p x = false) : ∀ x ∈ l.take (i + 1), p x = false := by
  intro x hx
  rw [List.take_succ_eq_append_getElem h, List.mem_append, List.mem_singleton] at hx
  rcases hx with hx | rfl
  · exact hn x hx
  · exact hp

variable {F : Nat → Option RFunc}

end Go.RM

/-
  Rows of structs that are written, and slices that their owner may change in place.
-/
namespace Go.RM
set_option linter.unusedVariables false
set_option linter.unusedSimpArgs false

/-- v is a slice of block b. -/
def At (v : AV) (b : Nat) : Prop := ∃ off k lim, v = .slice b off k lim
theorem At.same {v : AV} {b b' : Nat} (h : At v b) (h' : At v b') : b = b' := by
  obtain ⟨_, _, _, rfl⟩ := h
  obtain ⟨_, _, _, e⟩ := h'
  cases e; rfl
theorem at_slice {b off k : Nat} {lim : Option Nat} : At (.slice b off k lim) b := ⟨_, _, _, rfl⟩
theorem at_empty {b : Nat} : ¬ At .empty b := fun ⟨_, _, _, h⟩ => by cases h

/-- A slice of blocks from n on that nobody else refers to: it may be appended to, and written. -/
structure Own (n : Nat) (H : Heap) (e : Nat) (v : AV) (m : Nat) (cs : List AV) : Prop where
  small : m ≤ 9223372036854775807
  out : (v = .empty ∧ m = 0 ∧ cs = []) ∨ ∃ b off lim k, v = .slice b off m lim ∧ n ≤ b ∧ H[b]? = some k ∧ k.live = true ∧ k.e = e ∧ off + m * e ≤ k.cells.length ∧ cs = (k.cells.drop off).take (m * e) ∧ (∃ q, k.cells.length = off + q * e) ∧ ∀ c, lim = some c → m ≤ c ∧ off + c * e ≤ k.cells.length

theorem Own.nil {n : Nat} {H : Heap} {e : Nat} : Own n H e .empty 0 [] := ⟨Nat.zero_le _, .inl ⟨rfl, rfl, rfl⟩⟩
theorem Own.sl {n e m : Nat} {H : Heap} {v : AV} {cs : List AV} (h : Own n H e v m cs) : Sl H e v m cs := by
  rcases h.out with g | ⟨b, off, lim, k, h1, h2, h3, h4, h5, h6, h7, _, h8⟩
  · exact ⟨h.small, .inl g⟩
  · refine ⟨h.small, .inr ⟨b, off, lim, k, h1, act_live h3 h4, h5, h6, ?_, h7⟩⟩
    cases lim with
    | none => simp
    | some c => exact (h8 c rfl).1
theorem Own.len {n e m : Nat} {H : Heap} {v : AV} {cs : List AV} (h : Own n H e v m cs) : lenA v = some m := h.sl.len
theorem Own.scal {n e m : Nat} {H : Heap} {v : AV} {cs : List AV} (h : Own n H e v m cs) : Scal v := h.sl.scal
/-- What is left alone stays. -/
theorem Own.frame {n e m : Nat} {H H' : Heap} {v : AV} {cs : List AV} (h : Own n H e v m cs) (hf : ∀ b, At v b → H'[b]? = H[b]?) : Own n H' e v m cs := by
  rcases h.out with g | ⟨b, off, lim, k, rfl, h2, h3, h4⟩
  · exact ⟨h.small, .inl g⟩
  · exact ⟨h.small, .inr ⟨b, off, lim, k, rfl, h2, by rw [hf b at_slice]; exact h3, h4⟩⟩
theorem Own.at_lt {n e m : Nat} {H : Heap} {v : AV} {cs : List AV} {b : Nat} (h : Own n H e v m cs) (ha : At v b) : n ≤ b ∧ b < H.length := by
  rcases h.out with ⟨rfl, _⟩ | ⟨b', off, lim, k, rfl, h2, h3, h4⟩
  · exact absurd ha at_empty
  · have := ha.same at_slice
    subst this
    exact ⟨h2, get_lt h3⟩
theorem Own.keep {n e m : Nat} {H H' : Heap} {v : AV} {cs : List AV} (h : Own n H e v m cs) (k : Keep H.length H H') : Own n H' e v m cs := h.frame fun b hb => k.get b (h.at_lt hb).2

/-- append(x, a), in place or not. -/
theorem Own.push {n e m : Nat} {H : Heap} {cs ys : List AV} {x y : AV} {fl : Nat} {bytes : Nat} (he : 0 < e) (h : Own n H e x m cs) (hy : Sl H e y 1 ys) (hn : n ≤ H.length) (hfl : fl ≤ n) (hs : ys.all AV.scalar = true) (hlen : m + 1 ≤ 2 ^ 30) (hb : bytes ≤ 4096) :
    ∃ v H', appA fl true e bytes H x y = some (v, H') ∧ Own n H' e v (m + 1) (cs ++ ys) ∧ H.length ≤ H'.length ∧ (∀ b, b < H.length → ¬ At x b → H'[b]? = H[b]?) ∧ (∀ b, At v b → At x b ∨ H.length ≤ b) := by
  obtain ⟨c1, c2⟩ := sl_cells hy
  have hysl : ys.length = e := by
    rcases hy.out with ⟨rfl, h0, rfl⟩ | ⟨b, off, lim, k, rfl, h2, h3, h4, h5, h6⟩
    · omega
    · rw [h6, List.length_take, List.length_drop]; omega
  have hstart : appA fl true e bytes H x y = rappend fl true e bytes H x 1 ys := by
    show (match sliceLen y with | some k => (sliceCells H e k y).bind fun xs => rappend fl true e bytes H x k xs | none => none) = _
    rw [c1]; simp only [c2, Option.bind_some]
  rw [hstart]
  have hsz : (m + 1 + (m + 1) / 4 + 192) * bytes ≤ 2 ^ 48 := by
    have h1 : m + 1 + (m + 1) / 4 + 192 ≤ 2 ^ 31 := by omega
    calc (m + 1 + (m + 1) / 4 + 192) * bytes ≤ 2 ^ 31 * 4096 := Nat.mul_le_mul h1 hb
      _ ≤ 2 ^ 48 := by decide
  have hsz2 : 1 * bytes ≤ 2 ^ 48 := by omega
  have hm1 : (m + 1) * e = m * e + e := by rw [Nat.add_mul, Nat.one_mul]
  unfold rappend
  rw [if_neg (by decide)]
  rcases h.out with ⟨rfl, rfl, rfl⟩ | ⟨b, off, lim, k, rfl, h2, h3, h4, h5, h6, h7, ⟨q, h9⟩, h8⟩
  · simp only
    rw [if_pos ⟨hsz2, by omega⟩]
    refine ⟨_, _, rfl, ⟨by omega, .inr ⟨H.length, 0, none, { cells := ys, e }, rfl, hn, snoc_end _ _, rfl, rfl, by simp [hysl], ?_, ⟨1, by simp [hysl]⟩, fun c hc => by cases hc⟩⟩, by simp, fun b hb _ => List.getElem?_append_left hb, fun b hb => .inr (Nat.le_of_eq (at_slice.same hb))⟩
    rw [List.drop_zero, List.nil_append, List.take_of_length_le (by simp [hysl])]
  · simp only [act_live h3 h4]
    rw [if_pos ⟨h5, h6, hsz, by omega⟩, if_pos h4]
    have hbl := get_lt h3
    have hcsl : cs.length = m * e := by rw [h7, List.length_take, List.length_drop]; omega
    -- in place
    have inplace : off + m * e + e ≤ k.cells.length → ∃ v H', ((rput fl H b (off + m * e) ys).map fun H' => (AV.slice b off (m + 1) lim, H')) = some (v, H') ∧ ((∀ c, lim = some c → m + 1 ≤ c) → Own n H' e v (m + 1) (cs ++ ys)) ∧ H.length ≤ H'.length ∧ (∀ b', b' < H.length → ¬ At (AV.slice b off m lim) b' → H'[b']? = H[b']?) ∧ (∀ b', At v b' → At (AV.slice b off m lim) b' ∨ H.length ≤ b') := fun hfit => by
      refine ⟨.slice b off (m + 1) lim, H.set b { k with cells := splice k.cells (off + m * e) ys, clean := false }, ?_, fun hlim => ⟨by omega, .inr ⟨b, off, lim, { k with cells := splice k.cells (off + m * e) ys, clean := false }, rfl, h2, ?_, h4, h5, ?_, ?_, ⟨q, ?_⟩, ?_⟩⟩, by simp, fun b' hb' hne => ?_, fun b' hb' => .inl ?_⟩
      · unfold rput
        simp only [Heap.blk, h3, h4, if_true]
        rw [if_pos ⟨by omega, by rw [hysl]; omega, hs⟩]; rfl
      · rw [List.getElem?_set_self hbl]
      · simp only [splice, List.length_append, List.length_take, List.length_drop, hysl]; omega
      · simp only [splice]
        rw [List.append_assoc, List.drop_append_of_le_length (by rw [List.length_take]; omega), ← List.append_assoc, List.take_append_of_le_length (by rw [List.length_append, List.length_drop, List.length_take, hysl]; omega)]
        rw [List.drop_take, show off + m * e - off = m * e by omega, ← h7, List.take_of_length_le (by rw [List.length_append, hcsl, hysl]; omega)]
      · simp only [splice, List.length_append, List.length_take, List.length_drop, hysl]; omega
      · intro c hc
        refine ⟨hlim c hc, ?_⟩
        have := (h8 c hc).2
        simp only [splice, List.length_append, List.length_take, List.length_drop, hysl]; omega
      · have : b' ≠ b := fun e => hne (by rw [e]; exact at_slice)
        rw [List.getElem?_set_ne (Ne.symm this)]
      · have := at_slice.same hb'
        subst this; exact at_slice
    cases lim with
    | none =>
      simp only
      by_cases hend : off + m * e = k.cells.length
      · rw [if_pos hend]
        unfold rappendTop
        rw [if_pos ⟨by omega, hs⟩]
        have hlen' : (k.cells.drop off).length = m * e := by rw [List.length_drop]; omega
        refine ⟨_, _, rfl, ⟨by omega, .inr ⟨H.length, 0, none, { cells := k.cells.drop off ++ ys, e }, rfl, hn, ?_, rfl, rfl, ?_, ?_, ⟨m + 1, ?_⟩, fun c hc => by cases hc⟩⟩, by simp, fun b' hb' hne => ?_, fun b' hb' => .inr (Nat.le_of_eq (at_slice.same hb'))⟩
        · rw [List.getElem?_append_right (by simp)]; simp
        · simp [hysl, hlen', Nat.add_mul]
        · rw [List.drop_zero, h7, List.take_of_length_le (l := k.cells.drop off) (by omega), List.take_of_length_le]; simp [hysl, hlen', Nat.add_mul]
        · simp [hysl, hlen', Nat.add_mul]
        · have : b' ≠ b := fun e => hne (by rw [e]; exact at_slice)
          rw [List.getElem?_append_left (by simpa using hb'), List.getElem?_set_ne (Ne.symm this)]
      · rw [if_neg hend, if_pos trivial]
        have hq : m * e < q * e := by omega
        have hq2 : m < q := Nat.lt_of_mul_lt_mul_right hq
        have hq3 : (m + 1) * e ≤ q * e := Nat.mul_le_mul_right e hq2
        obtain ⟨v, H', a1, a2, a3⟩ := inplace (by omega)
        exact ⟨v, H', a1, a2 (fun c hc => by cases hc), a3⟩
    | some c =>
      obtain ⟨g1, g2⟩ := h8 c rfl
      simp only
      by_cases hc : m + 1 ≤ c
      · rw [if_pos hc, if_pos trivial]
        have hq3 : (m + 1) * e ≤ c * e := Nat.mul_le_mul_right e hc
        obtain ⟨v, H', a1, a2, a3⟩ := inplace (by omega)
        exact ⟨v, H', a1, a2 (fun c' hc' => by cases hc'; exact hc), a3⟩
      · rw [if_neg hc]
        refine ⟨_, _, rfl, ⟨by omega, .inr ⟨H.length, 0, none, { cells := (k.cells.drop off).take (m * e) ++ ys, e }, rfl, hn, snoc_end _ _, rfl, rfl, ?_, ?_, ⟨m + 1, ?_⟩, fun c hc => by cases hc⟩⟩, by simp, fun b' hb' hne => List.getElem?_append_left hb', fun b' hb' => .inr (Nat.le_of_eq (at_slice.same hb'))⟩
        · rw [← h7, Nat.zero_add, List.length_append, hcsl, hysl]; omega
        · rw [List.drop_zero, ← h7, List.take_of_length_le]; rw [List.length_append, hcsl, hysl]; omega
        · rw [← h7, List.length_append, hcsl, hysl]; omega

/-! ### Rows of structs -/

/-- Block b is a row of structs of e cells. -/
structure MRow (H : Heap) (b e : Nat) (css : List (List AV)) : Prop where
  out : ∃ k, H[b]? = some k ∧ k.live = true ∧ k.e = e ∧ k.cells = css.flatten
  lens : ∀ c ∈ css, c.length = e

theorem MRow.lt {H : Heap} {b e : Nat} {css : List (List AV)} (h : MRow H b e css) : b < H.length := by obtain ⟨k, h1, _⟩ := h.out; exact get_lt h1
theorem MRow.frame {H H' : Heap} {b e : Nat} {css : List (List AV)} (h : MRow H b e css) (hf : H'[b]? = H[b]?) : MRow H' b e css := by
  obtain ⟨k, h1, h2⟩ := h.out
  exact ⟨⟨k, by rw [hf]; exact h1, h2⟩, h.lens⟩
theorem MRow.keep {H H' : Heap} {b e : Nat} {css : List (List AV)} (h : MRow H b e css) (k : Keep H.length H H') : MRow H' b e css := h.frame (k.get b h.lt)
theorem MRow.load {H : Heap} {b e : Nat} {css : List (List AV)} (h : MRow H b e css) {i : Nat} {c : List AV} (hc : css[i]? = some c) {o : Nat} {x : AV} (hx : c[o]? = some x) : rload H none b (i * e + o) = some x := by
  obtain ⟨k, h1, h2, h3, h4⟩ := h.out
  unfold rload
  rw [act_live h1 h2]
  simp only
  have ho : o < e := by
    rw [← h.lens c (List.mem_of_getElem? hc)]
    rcases Nat.lt_or_ge o c.length with h | h
    · exact h
    · rw [List.getElem?_eq_none h] at hx; cases hx
  rw [h4, flat_get h.lens hc ho, hx]
theorem MRow.loadN {H : Heap} {b e : Nat} {css : List (List AV)} (h : MRow H b e css) {i : Nat} {c : List AV} (hc : css[i]? = some c) {o n : Nat} (hon : o + n ≤ e) : rload H (some n) b (i * e + o) = some (.agg ((c.drop o).take n)) := by
  obtain ⟨k, h1, h2, h3, h4⟩ := h.out
  unfold rload
  rw [act_live h1 h2]
  simp only
  have hi : i < css.length := by
    rcases Nat.lt_or_ge i css.length with h | h
    · exact h
    · rw [List.getElem?_eq_none h] at hc; cases hc
  have hfl := flat_len h.lens
  have hm : i * e + e ≤ css.length * e := by
    have : (i + 1) * e ≤ css.length * e := Nat.mul_le_mul_right e hi
    rw [Nat.succ_mul] at this; omega
  rw [if_pos (by rw [h4, hfl]; omega)]
  have hseg := flat_seg h.lens hc
  congr 2
  rw [← hseg, h4, List.drop_take, List.take_take, List.drop_drop]
  congr 1
  omega
theorem MRow.ptr {b e n i : Nat} (h : i < n) : ptrA e (.slice b 0 n (some n)) (i : Int) = some (b, i * e) := by
  show (if (0 : Int) ≤ i ∧ (i : Int) < n then some (b, 0 + (i : Int).toNat * e) else none) = _
  rw [if_pos (by omega), Int.toNat_natCast, Nat.zero_add]

theorem splice_len {l cs : List AV} {o : Nat} (h : o + cs.length ≤ l.length) : (splice l o cs).length = l.length := by
  simp only [splice, List.length_append, List.length_take, List.length_drop]; omega

theorem flat_splice {e : Nat} : ∀ {css : List (List AV)} (_ : ∀ c ∈ css, c.length = e) {i : Nat} {c : List AV} (_ : css[i]? = some c) {o : Nat} {ws : List AV} (_ : o + ws.length ≤ e), splice css.flatten (i * e + o) ws = (css.set i (splice c o ws)).flatten
  | [], _, i, c, hc, _, _, _ => by simp at hc
  | d :: css, hl, 0, c, hc, o, ws, ho => by
    simp only [List.getElem?_cons_zero, Option.some.injEq] at hc
    subst hc
    have hd := hl d (by simp)
    simp only [List.set_cons_zero, List.flatten_cons, splice, Nat.zero_mul, Nat.zero_add]
    rw [List.take_append_of_le_length (by omega), List.drop_append_of_le_length (by omega)]
    simp only [List.append_assoc]
  | d :: css, hl, i + 1, c, hc, o, ws, ho => by
    have hd := hl d (by simp)
    have ih := flat_splice (css := css) (fun x hx => hl x (by simp [hx])) (i := i) (c := c) (by simpa using hc) ho
    rw [List.set_cons_succ, List.flatten_cons, List.flatten_cons, ← ih]
    simp only [splice]
    have e1 : (i + 1) * e + o = d.length + (i * e + o) := by rw [Nat.succ_mul, hd]; omega
    have e2 : (i + 1) * e + o + ws.length = d.length + (i * e + o + ws.length) := by omega
    rw [e2, e1, List.take_length_add_append, List.drop_length_add_append]
    simp only [List.append_assoc]

theorem MRow.put {fl : Nat} {H : Heap} {b e : Nat} {css : List (List AV)} (h : MRow H b e css) {i : Nat} {c : List AV} (hc : css[i]? = some c) {o n : Nat} {v : AV} (hn : v.cells.length = n) (hon : o + n ≤ e) (hs : v.cells.all AV.scalar = true) (hfl : fl ≤ b) : ∃ H', putA fl H b (i * e + o) n v = some H' ∧ MRow H' b e (css.set i (splice c o v.cells)) ∧ KeepX b H H' := by
  obtain ⟨k, h1, h2, h3, h4⟩ := h.out
  have hcl := h.lens c (List.mem_of_getElem? hc)
  have hi : i < css.length := by
    rcases Nat.lt_or_ge i css.length with h | h
    · exact h
    · rw [List.getElem?_eq_none h] at hc; cases hc
  have hflen := flat_len h.lens
  have hm : i * e + e ≤ css.length * e := by
    have : (i + 1) * e ≤ css.length * e := Nat.mul_le_mul_right e hi
    rw [Nat.succ_mul] at this; omega
  refine ⟨H.set b { k with cells := splice k.cells (i * e + o) v.cells, clean := false }, ?_, ⟨⟨{ k with cells := splice k.cells (i * e + o) v.cells, clean := false }, ?_, h2, h3, ?_⟩, ?_⟩, ⟨by simp, fun b' hne => by rw [List.getElem?_set_ne (Ne.symm hne)]⟩⟩
  · unfold putA rput
    rw [if_pos hn]
    simp only [Heap.blk, h1, h2, if_true]
    rw [if_pos ⟨hfl, by rw [h4, hflen]; omega, hs⟩]
  · rw [List.getElem?_set_self (get_lt h1)]
  · simp only [h4]; exact flat_splice h.lens hc (by omega)
  · intro x hx
    rcases List.mem_or_eq_of_mem_set hx with hx | rfl
    · exact h.lens x hx
    · rw [splice_len (by omega)]; exact hcl

/-! ### slices.Delete -/

theorem rput_ok {fl : Nat} {H : Heap} {b o : Nat} {k : Blk} {ws : List AV} (h : H[b]? = some k) (hl : k.live = true) (hfl : fl ≤ b) (hf : o + ws.length ≤ k.cells.length) (hs : ws.all AV.scalar = true) :
    rput fl H b o ws = some (H.set b { k with cells := splice k.cells o ws, clean := false }) := by
  unfold rput
  simp only [Heap.blk, h, hl, if_true]
  rw [if_pos ⟨hfl, hf, hs⟩]

/-! ### A block of cells -/

structure Box (H : Heap) (b : Nat) (cs : List AV) : Prop where
  out : ∃ k, H[b]? = some k ∧ k.live = true ∧ k.cells = cs
theorem Box.lt {H : Heap} {b : Nat} {cs : List AV} (h : Box H b cs) : b < H.length := by obtain ⟨k, h1, _⟩ := h; exact get_lt h1
theorem Box.frame {H H' : Heap} {b : Nat} {cs : List AV} (h : Box H b cs) (hf : H'[b]? = H[b]?) : Box H' b cs := by
  obtain ⟨k, h1, h2⟩ := h
  exact ⟨k, by rw [hf]; exact h1, h2⟩
theorem NewB.box {H H' : Heap} {e b : Nat} {cs : List AV} (h : NewB H e cs b H') : Box H' b cs := ⟨_, h.get, rfl, rfl⟩
theorem Box.load {H : Heap} {b : Nat} {cs : List AV} (h : Box H b cs) {o : Nat} {x : AV} (hx : cs[o]? = some x) : rload H none b o = some x := by
  obtain ⟨k, h1, h2, h3⟩ := h
  unfold rload
  rw [act_live h1 h2]; simp only [h3, hx]
theorem Box.loadN {H : Heap} {b : Nat} {cs : List AV} (h : Box H b cs) {o n : Nat} (hon : o + n ≤ cs.length) : rload H (some n) b o = some (.agg ((cs.drop o).take n)) := by
  obtain ⟨k, h1, h2, h3⟩ := h
  unfold rload
  rw [act_live h1 h2]; simp only [h3]; rw [if_pos hon]
theorem Box.put {fl : Nat} {H : Heap} {b : Nat} {cs : List AV} (h : Box H b cs) {o n : Nat} {v : AV} (hn : v.cells.length = n) (hon : o + n ≤ cs.length) (hs : v.cells.all AV.scalar = true) (hfl : fl ≤ b) : ∃ H', putA fl H b o n v = some H' ∧ Box H' b (splice cs o v.cells) ∧ KeepX b H H' := by
  obtain ⟨k, h1, h2, h3⟩ := h
  refine ⟨H.set b { k with cells := splice k.cells o v.cells, clean := false }, ?_, ⟨{ k with cells := splice k.cells o v.cells, clean := false }, ?_, h2, by simp only [h3]⟩, ⟨?_, fun b' hne => ?_⟩⟩
  · unfold putA
    rw [if_pos hn, rput_ok h1 h2 hfl (by rw [h3, hn]; exact hon) hs]
  · rw [List.getElem?_set_self (get_lt h1)]
  · simp
  · rw [List.getElem?_set_ne (Ne.symm hne)]

end Go.RM

