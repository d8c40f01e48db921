import Derived.Test.YtlofiiepmehhbaaRmWp
import Derived.Test.YtlofiiepmehhbaaRmLib
import Derived.Test.YtlofiiepmehhbaaMqW
/-
  Functions of the program as the abstract machine runs them, and what must be shown of a run: printed by RmPrint.
-/
namespace Go.RM
set_option linter.unusedVariables false
set_option maxRecDepth 4000
def rf_FFault : RFunc := ⟨2, 3, [.part 2 (some 2)],
 ((.seq (.ops [⟨.tomb 1 (.k (.agg [.int .i64 0, .int .i64 0])), none, (some 2), true⟩])
 ((.seq (.ops [o1 (.move (.var 0)), o1 (.move (.var 1)), o1 (.build [.int .i64 0, .int .i64 0] [(0, 1, (.loc 0)), (1, 1, (.loc 1))]), ⟨.upd 2 0 (.var 2) (.loc 2), none, (some 2), true⟩])
 (.ret))))), none⟩
theorem v_FFault {F : Nat → Option RFunc} {me : Nat} (hF : F me = some (rf_FFault )) {fl : Nat} {H : Heap} {Q : AV → Heap → Prop} (code0 : Int) (index1 : Int)
  (h : ∀ (H2 : Heap), Dead1 H 1 H2 → Q (.agg [(.int .i64 code0), (.int .i64 index1)]) H2) : Ret F fl me [(.int .i64 code0), (.int .i64 index1)] H Q := by
  refine ret_intro hF rfl ?_
  refine w_seq ?_
  refine w_run [1] ?_
  obtain ⟨H2, hb⟩ : ∃ H', Dead1 H 1 H' := ⟨_, ⟨rfl⟩⟩
  replace h := h H2 hb
  refine t_tomb true 1 (.agg [(.int .i64 0), (.int .i64 0)]) [(.int .i64 0), (.int .i64 0)] H2 H (by kernel_rfl) rfl hb ?_
  refine t_done [(.int .i64 code0), (.int .i64 index1), (.agg [(.int .i64 0), (.int .i64 0)])] H2 (by kernel_rfl) ?_
  refine then_norm ?_
  refine w_seq ?_
  refine w_run [0, 0, 1, 1] ?_
  refine t_build true [(.int .i64 0), (.int .i64 0)] [(0, 1, .loc 0), (1, 1, .loc 1)] [(.int .i64 code0), (.int .i64 index1)] [(.int .i64 code0), (.int .i64 index1)] H2 (by kernel_rfl) (fill_c (vs := [(.int .i64 code0)]) (size := 1) rfl (by kernel_rfl) (by kernel_rfl) (fill_c (vs := [(.int .i64 index1)]) (size := 1) rfl (by kernel_rfl) (by kernel_rfl) (by kernel_rfl))) ?_
  refine t_upd true 2 0 [(.int .i64 0), (.int .i64 0)] (.agg [(.int .i64 code0), (.int .i64 index1)]) [(.int .i64 code0), (.int .i64 index1)] [(.int .i64 code0), (.int .i64 index1)] H2 (by kernel_rfl) rfl (all_c rfl (all_c rfl all_n)) ⟨rfl, Nat.le_of_ble_eq_true (by kernel_rfl), rfl⟩ ?_
  refine t_done [(.int .i64 code0), (.int .i64 index1), (.agg [(.int .i64 code0), (.int .i64 index1)])] H2 (by kernel_rfl) ?_
  refine then_norm ?_
  refine w_ret ?_
  exact body_ret (vs := [(.agg [(.int .i64 code0), (.int .i64 index1)])]) _ (by kernel_rfl) rfl h

def rf_FHas : RFunc := ⟨2, 6, [.var 2],
 ((.seq (.ops [⟨.move (.k (.bool false)), none, (some 2), true⟩])
 ((.seq ((.seq (.ops [⟨.move (.k (.int .i64 0)), none, (some 3), true⟩])
 (.block 0 (.loop ((.seq ((.seq (.ops [o1 (.move (.var 3)), o1 (.move (.var 0)), o1 (.len (.loc 1)), ⟨.bin .lss .no (.loc 0) (.loc 2), none, (some 4), true⟩])
 (.cond (.var 4) (.skip) (.exit 0))))
 ((.seq (.block 1 ((.seq (.ops [o1 (.move (.var 0)), o1 (.move (.var 3)), o1 (.indexAddr 1 (.loc 0) (.loc 1)), o1 (.load none (.loc 2)), o1 (.move (.var 1)), ⟨.bin .eql .no (.loc 3) (.loc 4), none, (some 5), true⟩])
 (.cond (.var 5) ((.seq (.ops [⟨.move (.k (.bool true)), none, (some 2), true⟩])
 (.ret))) (.skip)))))
 (.ops [o1 (.move (.var 3)), o1 (.bin .add .no (.loc 0) (.k (.int .i64 1))), ⟨.move (.loc 1), none, (some 3), true⟩])))))))))
 ((.seq (.ops [⟨.move (.k (.bool false)), none, (some 2), true⟩])
 (.ret))))))), none⟩
theorem v_FHas {F : Nat → Option RFunc} {me : Nat} (hF : F me = some (rf_FHas )) {fl : Nat} {H : Heap} {Q : AV → Heap → Prop} (l0 : AV) (n1 : Int)
  (h : ∃ (J2 : Nat → Int → Prop) (k3 : Nat), J2 k3 0 ∧ (∀ (m4 : Nat) (i6 : Int), J2 m4 i6 → ∃ len9 : Nat, lenA l0 = some len9 ∧ ((i6 < (len9 : Int)) → ∃ (e10 : Int), getA H 1 none l0 i6 0 = some (.int .i64 e10) ∧ ((e10 = n1) → Q (.bool true) H) ∧ (¬(e10 = n1) → ∃ m12 : Nat, m12 < m4 ∧ J2 m12 (IntKind.wrap .i64 (i6 + 1)))) ∧ (¬(i6 < (len9 : Int)) → Q (.bool false) H))) : Ret F fl me [l0, (.int .i64 n1)] H Q := by
  refine ret_intro hF rfl ?_
  refine w_seq ?_
  refine w_run [0] ?_
  refine t_done [l0, (.int .i64 n1), (.bool false), .undef, .undef, .undef] H (by kernel_rfl) ?_
  refine then_norm ?_
  refine w_seq ?_
  refine w_seq ?_
  refine w_run [0] ?_
  refine t_done [l0, (.int .i64 n1), (.bool false), (.int .i64 0), .undef, .undef] H (by kernel_rfl) ?_
  refine then_norm ?_
  refine w_block ?_
  obtain ⟨J2, k3, h0, h⟩ := h
  refine w_loop (I := fun mI EI HI => ∃ (d5 : AV) (i6 : Int) (d7 : AV) (d8 : AV), EI = [l0, (.int .i64 n1), d5, (.int .i64 i6), d7, d8] ∧ H = HI ∧ J2 mI i6) ?_ k3 ⟨_, _, _, _, rfl, rfl, h0⟩
  clear h0
  rintro m4 EI HI ⟨d5, i6, d7, d8, rfl, rfl, hJ⟩
  replace h := h m4 i6  hJ
  clear hJ
  refine w_seq ?_
  refine w_seq ?_
  refine w_run [0, 0, 1, 0] ?_
  obtain ⟨len9, hl, h⟩ := h
  refine t_len true l0 len9 H (by kernel_rfl) hl ?_
  refine t_done [l0, (.int .i64 n1), d5, (.int .i64 i6), (.bool (decide (i6 < (len9 : Int)))), d8] H (by kernel_rfl) ?_
  refine then_norm ?_
  refine w_cond (t := (decide (i6 < (len9 : Int)))) rfl (fun hc => ?_) (fun hc => ?_)
  · replace h := h.1 (is_dec.t hc)
    refine w_skip ?_
    refine then_norm ?_
    refine w_seq ?_
    refine w_block ?_
    refine w_seq ?_
    refine w_run [0, 0, 1, 1, 0, 0] ?_
    obtain ⟨e10, hg11, h⟩ := h
    refine t_idxG true 1 l0 .i64 i6 H (by kernel_rfl) hg11 ?_
    refine t_loadG true none 1 l0 i6 0 (.int .i64 e10) H (by kernel_rfl) hg11 ?_
    refine t_done [l0, (.int .i64 n1), d5, (.int .i64 i6), (.bool (decide (i6 < (len9 : Int)))), (.bool (e10 == n1))] H (by kernel_rfl) ?_
    refine then_norm ?_
    refine w_cond (t := (e10 == n1)) rfl (fun hc => ?_) (fun hc => ?_)
    · replace h := h.1 (is_eq.t hc)
      refine w_seq ?_
      refine w_run [0] ?_
      refine t_done [l0, (.int .i64 n1), (.bool true), (.int .i64 i6), (.bool (decide (i6 < (len9 : Int)))), (.bool (e10 == n1))] H (by kernel_rfl) ?_
      refine then_norm ?_
      refine w_ret ?_
      refine block_ret ?_
      refine then_ret ?_
      refine loop_ret ?_
      refine block_ret ?_
      refine then_ret ?_
      exact body_ret (vs := [(.bool true)]) _ (by kernel_rfl) rfl h
    · replace h := h.2 (is_eq.f hc)
      refine w_skip ?_
      refine block_norm ?_
      refine then_norm ?_
      refine w_run [0, 0, 0] ?_
      refine t_done [l0, (.int .i64 n1), d5, (.int .i64 (IntKind.wrap .i64 (i6 + 1))), (.bool (decide (i6 < (len9 : Int)))), (.bool (e10 == n1))] H (by kernel_rfl) ?_
      obtain ⟨m', hm, h⟩ := h
      refine loop_norm ⟨m', hm, _, _, _, _, rfl, rfl, h⟩
  · replace h := h.2 (is_dec.f hc)
    refine w_exit ?_
    refine then_exit ?_
    refine loop_exit ?_
    refine block_exit ?_
    refine then_norm ?_
    refine w_seq ?_
    refine w_run [0] ?_
    refine t_done [l0, (.int .i64 n1), (.bool false), (.int .i64 i6), (.bool (decide (i6 < (len9 : Int)))), d8] H (by kernel_rfl) ?_
    refine then_norm ?_
    refine w_ret ?_
    exact body_ret (vs := [(.bool false)]) _ (by kernel_rfl) rfl h

def rf_FEqualInts : RFunc := ⟨2, 7, [.var 2],
 ((.seq (.ops [⟨.move (.k (.bool false)), none, (some 2), true⟩])
 ((.seq ((.seq (.ops [o1 (.move (.var 0)), o1 (.len (.loc 0)), o1 (.move (.var 1)), o1 (.len (.loc 2)), ⟨.bin .neq .no (.loc 1) (.loc 3), none, (some 3), true⟩])
 (.cond (.var 3) ((.seq (.ops [⟨.move (.k (.bool false)), none, (some 2), true⟩])
 (.ret))) (.skip))))
 ((.seq ((.seq (.ops [⟨.move (.k (.int .i64 0)), none, (some 4), true⟩])
 (.block 0 (.loop ((.seq ((.seq (.ops [o1 (.move (.var 4)), o1 (.move (.var 0)), o1 (.len (.loc 1)), ⟨.bin .lss .no (.loc 0) (.loc 2), none, (some 5), true⟩])
 (.cond (.var 5) (.skip) (.exit 0))))
 ((.seq (.block 1 ((.seq (.ops [⟨.move (.var 0), none, none, false⟩, ⟨.move (.var 4), none, none, false⟩, ⟨.indexAddr 1 (.loc 0) (.loc 1), none, none, false⟩, ⟨.load none (.loc 2), none, none, false⟩, ⟨.move (.var 1), none, none, false⟩, ⟨.move (.var 4), none, none, false⟩, ⟨.indexAddr 1 (.loc 4) (.loc 5), none, none, false⟩, ⟨.load none (.loc 6), none, none, false⟩, ⟨.bin .neq .no (.loc 3) (.loc 7), none, (some 6), true⟩])
 (.cond (.var 6) ((.seq (.ops [⟨.move (.k (.bool false)), none, (some 2), true⟩])
 (.ret))) (.skip)))))
 (.ops [o1 (.move (.var 4)), o1 (.bin .add .no (.loc 0) (.k (.int .i64 1))), ⟨.move (.loc 1), none, (some 4), true⟩])))))))))
 ((.seq (.ops [⟨.move (.k (.bool true)), none, (some 2), true⟩])
 (.ret))))))))), none⟩
theorem v_FEqualInts {F : Nat → Option RFunc} {me : Nat} (hF : F me = some (rf_FEqualInts )) {fl : Nat} {H : Heap} {Q : AV → Heap → Prop} (a0 : AV) (b1 : AV)
  (h : ∃ len2 : Nat, lenA a0 = some len2 ∧ ∃ len3 : Nat, lenA b1 = some len3 ∧ (((len2 : Int) ≠ (len3 : Int)) → Q (.bool false) H) ∧ (¬((len2 : Int) ≠ (len3 : Int)) → ∃ (J4 : Nat → Int → Prop) (k5 : Nat), J4 k5 0 ∧ (∀ (m6 : Nat) (i8 : Int), J4 m6 i8 → ∃ len11 : Nat, lenA a0 = some len11 ∧ ((i8 < (len11 : Int)) → ∃ (e12 : Int), getA H 1 none a0 i8 0 = some (.int .i64 e12) ∧ ∃ (e14 : Int), getA H 1 none b1 i8 0 = some (.int .i64 e14) ∧ ((e12 ≠ e14) → Q (.bool false) H) ∧ (¬(e12 ≠ e14) → ∃ m16 : Nat, m16 < m6 ∧ J4 m16 (IntKind.wrap .i64 (i8 + 1)))) ∧ (¬(i8 < (len11 : Int)) → Q (.bool true) H)))) : Ret F fl me [a0, b1] H Q := by
  refine ret_intro hF rfl ?_
  refine w_seq ?_
  refine w_run [0] ?_
  refine t_done [a0, b1, (.bool false), .undef, .undef, .undef, .undef] H (by kernel_rfl) ?_
  refine then_norm ?_
  refine w_seq ?_
  refine w_seq ?_
  refine w_run [0, 1, 0, 1, 0] ?_
  obtain ⟨len2, hl, h⟩ := h
  refine t_len true a0 len2 H (by kernel_rfl) hl ?_
  obtain ⟨len3, hl, h⟩ := h
  refine t_len true b1 len3 H (by kernel_rfl) hl ?_
  refine t_done [a0, b1, (.bool false), (.bool ((len2 : Int) != (len3 : Int))), .undef, .undef, .undef] H (by kernel_rfl) ?_
  refine then_norm ?_
  refine w_cond (t := ((len2 : Int) != (len3 : Int))) rfl (fun hc => ?_) (fun hc => ?_)
  · replace h := h.1 (is_ne.t hc)
    refine w_seq ?_
    refine w_run [0] ?_
    refine t_done [a0, b1, (.bool false), (.bool ((len2 : Int) != (len3 : Int))), .undef, .undef, .undef] H (by kernel_rfl) ?_
    refine then_norm ?_
    refine w_ret ?_
    refine then_ret ?_
    exact body_ret (vs := [(.bool false)]) _ (by kernel_rfl) rfl h
  · replace h := h.2 (is_ne.f hc)
    refine w_skip ?_
    refine then_norm ?_
    refine w_seq ?_
    refine w_seq ?_
    refine w_run [0] ?_
    refine t_done [a0, b1, (.bool false), (.bool ((len2 : Int) != (len3 : Int))), (.int .i64 0), .undef, .undef] H (by kernel_rfl) ?_
    refine then_norm ?_
    refine w_block ?_
    obtain ⟨J4, k5, h0, h⟩ := h
    refine w_loop (I := fun mI EI HI => ∃ (d7 : AV) (i8 : Int) (d9 : AV) (d10 : AV), EI = [a0, b1, d7, (.bool ((len2 : Int) != (len3 : Int))), (.int .i64 i8), d9, d10] ∧ H = HI ∧ J4 mI i8) ?_ k5 ⟨_, _, _, _, rfl, rfl, h0⟩
    clear h0
    rintro m6 EI HI ⟨d7, i8, d9, d10, rfl, rfl, hJ⟩
    replace h := h m6 i8  hJ
    clear hJ
    refine w_seq ?_
    refine w_seq ?_
    refine w_run [0, 0, 1, 0] ?_
    obtain ⟨len11, hl, h⟩ := h
    refine t_len true a0 len11 H (by kernel_rfl) hl ?_
    refine t_done [a0, b1, d7, (.bool ((len2 : Int) != (len3 : Int))), (.int .i64 i8), (.bool (decide (i8 < (len11 : Int)))), d10] H (by kernel_rfl) ?_
    refine then_norm ?_
    refine w_cond (t := (decide (i8 < (len11 : Int)))) rfl (fun hc => ?_) (fun hc => ?_)
    · replace h := h.1 (is_dec.t hc)
      refine w_skip ?_
      refine then_norm ?_
      refine w_seq ?_
      refine w_block ?_
      refine w_seq ?_
      refine w_run [0, 0, 1, 1, 0, 0, 1, 1, 0] ?_
      obtain ⟨e12, hg13, h⟩ := h
      refine t_idxG false 1 a0 .i64 i8 H (by kernel_rfl) hg13 ?_
      refine t_loadG false none 1 a0 i8 0 (.int .i64 e12) H (by kernel_rfl) hg13 ?_
      obtain ⟨e14, hg15, h⟩ := h
      refine t_idxG false 1 b1 .i64 i8 H (by kernel_rfl) hg15 ?_
      refine t_loadG false none 1 b1 i8 0 (.int .i64 e14) H (by kernel_rfl) hg15 ?_
      refine t_done [a0, b1, d7, (.bool ((len2 : Int) != (len3 : Int))), (.int .i64 i8), (.bool (decide (i8 < (len11 : Int)))), (.bool (e12 != e14))] H (by kernel_rfl) ?_
      refine then_norm ?_
      refine w_cond (t := (e12 != e14)) rfl (fun hc => ?_) (fun hc => ?_)
      · replace h := h.1 (is_ne.t hc)
        refine w_seq ?_
        refine w_run [0] ?_
        refine t_done [a0, b1, (.bool false), (.bool ((len2 : Int) != (len3 : Int))), (.int .i64 i8), (.bool (decide (i8 < (len11 : Int)))), (.bool (e12 != e14))] H (by kernel_rfl) ?_
        refine then_norm ?_
        refine w_ret ?_
        refine block_ret ?_
        refine then_ret ?_
        refine loop_ret ?_
        refine block_ret ?_
        refine then_ret ?_
        exact body_ret (vs := [(.bool false)]) _ (by kernel_rfl) rfl h
      · replace h := h.2 (is_ne.f hc)
        refine w_skip ?_
        refine block_norm ?_
        refine then_norm ?_
        refine w_run [0, 0, 0] ?_
        refine t_done [a0, b1, d7, (.bool ((len2 : Int) != (len3 : Int))), (.int .i64 (IntKind.wrap .i64 (i8 + 1))), (.bool (decide (i8 < (len11 : Int)))), (.bool (e12 != e14))] H (by kernel_rfl) ?_
        obtain ⟨m', hm, h⟩ := h
        refine loop_norm ⟨m', hm, _, _, _, _, rfl, rfl, h⟩
    · replace h := h.2 (is_dec.f hc)
      refine w_exit ?_
      refine then_exit ?_
      refine loop_exit ?_
      refine block_exit ?_
      refine then_norm ?_
      refine w_seq ?_
      refine w_run [0] ?_
      refine t_done [a0, b1, (.bool true), (.bool ((len2 : Int) != (len3 : Int))), (.int .i64 i8), (.bool (decide (i8 < (len11 : Int)))), d10] H (by kernel_rfl) ?_
      refine then_norm ?_
      refine w_ret ?_
      exact body_ret (vs := [(.bool true)]) _ (by kernel_rfl) rfl h

end Go.RM

/-
  The reference's functions on lists of numbers: what they return.
-/
namespace Go.RM
set_option linter.unusedSimpArgs false
set_option linter.unusedVariables false

abbrev i64 (n : Int) : AV := .int .i64 n
abbrev flt (c i : Int) : AV := .agg [.int .i64 c, .int .i64 i]

theorem wsucc {i n : Nat} (h : i < n) (hn : n ≤ 9223372036854775807) : IntKind.wrap .i64 ((i : Int) + 1) = ((i + 1 : Nat) : Int) := by
  rw [wrap64 (by omega) (by omega)]; omega
variable {F : Nat → Option RFunc}

abbrev FFaultC (F : Nat → Option RFunc) (f : Nat) : Prop := ∀ {fl H Q c i}, (∀ H', Keep H.length H H' → Q (flt c i) H') → Ret F fl f [i64 c, i64 i] H Q
theorem fFault_c {f : Nat} (hF : F f = some rf_FFault) : FFaultC F f := fun hq => by
  refine v_FFault hF _ _ ?_
  intro H2 h; exact hq H2 h.keep

abbrev FHasC (F : Nat → Option RFunc) (f : Nat) : Prop := ∀ {fl H Q v l n}, Ints H v l → Q (.bool (decide (n ∈ l))) H → Ret F fl f [v, i64 n] H Q

theorem mem_drop {n : Int} {l : List Int} {i : Nat} (h : i < l.length) : (n ∈ l.drop i) ↔ (l[i] = n ∨ n ∈ l.drop (i + 1)) := by
  rw [List.drop_eq_getElem_cons h, List.mem_cons, eq_comm]

theorem fHas_c {f : Nat} (hF : F f = some rf_FHas) : FHasC F f := fun {fl H Q v l n} hv hq => by
  refine v_FHas hF _ _ ?_
  have hs := hv.small
  refine ⟨fun m v => ∃ i : Nat, v = i ∧ i + m = l.length ∧ (n ∈ l ↔ n ∈ l.drop i), l.length, ⟨0, rfl, by omega, by simp⟩, ?_⟩
  rintro m _ ⟨i, rfl, hm, hi⟩
  refine ⟨_, hv.len, fun hlt => ?_, fun hge => ?_⟩
  · have hil : i < l.length := by omega
    refine ⟨_, hv.int hil, fun he => ?_, fun hne => ?_⟩
    · have : n ∈ l := hi.2 ((mem_drop hil).2 (.inl he))
      rw [decide_eq_true this] at hq; exact hq
    · refine ⟨m - 1, by omega, i + 1, wsucc hil hs, by omega, hi.trans ((mem_drop hil).trans ?_)⟩
      simp [hne]
  · have : ¬ n ∈ l := fun h => by
      have := hi.1 h
      rw [List.drop_eq_nil_of_le (by omega)] at this; cases this
    rw [decide_eq_false this] at hq; exact hq

abbrev FEqualIntsC (F : Nat → Option RFunc) (f : Nat) : Prop := ∀ {fl H Q a b l m}, Ints H a l → Ints H b m → Q (.bool (decide (l = m))) H → Ret F fl f [a, b] H Q
theorem fEqualInts_c {f : Nat} (hF : F f = some rf_FEqualInts) : FEqualIntsC F f := fun {fl H Q a b l m} ha hb hq => by
  refine v_FEqualInts hF _ _ ?_
  have hs := ha.small
  refine ⟨_, ha.len, _, hb.len, fun hne => ?_, fun he => ?_⟩
  · rw [decide_eq_false (fun h => hne (by rw [h]))] at hq; exact hq
  · have he : l.length = m.length := by omega
    refine ⟨fun k v => ∃ i : Nat, v = i ∧ i + k = l.length ∧ (l.take i = m.take i), l.length, ⟨0, rfl, by omega, by simp⟩, ?_⟩
    rintro k _ ⟨i, rfl, hk, hi⟩
    refine ⟨_, ha.len, fun hlt => ?_, fun hge => ?_⟩
    · have hil : i < l.length := by omega
      refine ⟨_, ha.int hil, _, hb.int (by omega), fun hne => ?_, fun heq => ?_⟩
      · rw [decide_eq_false (fun h => hne (by subst h; rfl))] at hq; exact hq
      · refine ⟨k - 1, by omega, i + 1, wsucc hil hs, by omega, ?_⟩
        have heq : l[i] = m[i] := by omega
        rw [List.take_succ_eq_append_getElem hil, List.take_succ_eq_append_getElem (by omega), hi, heq]
    · rw [List.take_of_length_le (by omega), List.take_of_length_le (by omega)] at hi
      rw [decide_eq_true hi] at hq; exact hq

end Go.RM

/-
  Numbers of choices, and tails of their sums.
-/
namespace Go.RM

def ch : Nat → Nat → Nat
  | _, 0 => 1
  | 0, _ + 1 => 0
  | n + 1, k + 1 => ch n k + ch n (k + 1)

def tl (B G m : Nat) : Nat → Nat
  | 0 => 0
  | d + 1 => ch B (m - d) * ch G d + tl B G m d

end Go.RM

/-
  Package canary and its reference: what their functions return.
-/
namespace Go.RM
set_option linter.unusedSimpArgs false
set_option linter.unusedVariables false
set_option maxRecDepth 4000

variable {F : Nat → Option RFunc}

/-! ### The ways -/

/-! ### Samples -/

def okC (g b : Int) : Prop := 0 ≤ g ∧ 0 ≤ b ∧ g + b ≤ 25
instance (g b : Int) : Decidable (okC g b) := by unfold okC; exact inferInstance

/-! ### Tail, Decide -/

def okP (need pm : Int) : Prop := 0 ≤ need ∧ need ≤ 25 ∧ 0 ≤ pm ∧ pm < 1000
instance (a b : Int) : Decidable (okP a b) := by unfold okP; exact inferInstance

end Go.RM

/-
  Package canary and its reference, the rest.
-/
namespace Go.RM
set_option linter.unusedSimpArgs false
set_option linter.unusedVariables false
set_option maxRecDepth 4000

variable {F : Nat → Option RFunc}

/-! ### The reference's -/

def lo (B G m : Nat) : Nat → Nat
  | 0 => 0
  | j + 1 => lo B G m j + ch B j * ch G (m - j)
end Go.RM

/-
  Functions of the program as the abstract machine runs them, and what must be shown of a run: printed by RmPrint.
-/
namespace Go.RM
set_option linter.unusedVariables false
set_option maxRecDepth 4000
def rf_slices_Contains__int_int (nslices_Index__int_int : Nat) : RFunc := ⟨2, 3, [.var 2],
 ((.seq (.ops [⟨.move (.k (.bool false)), none, (some 2), true⟩])
 ((.seq (.ops [o1 (.move (.var 0)), o1 (.move (.var 1)), o1 (.callS nslices_Index__int_int [(.loc 0), (.loc 1)]), o1 (.bin .geq .no (.loc 2) (.k (.int .i64 0))), ⟨.move (.loc 3), none, (some 2), true⟩])
 (.ret))))), none⟩
theorem v_slices_Contains__int_int {F : Nat → Option RFunc} {me nslices_Index__int_int : Nat} (hF : F me = some (rf_slices_Contains__int_int nslices_Index__int_int)) {fl : Nat} {H : Heap} {Q : AV → Heap → Prop} (s0 : AV) (v1 : Int)
  (h : Ret F fl nslices_Index__int_int [s0, (.int .i64 v1)] H (fun v4 H3 => ∃ (r2 : Int), v4 = (.int .i64 r2) ∧ Q (.bool (decide (r2 ≥ 0))) H3)) : Ret F fl me [s0, (.int .i64 v1)] H Q := by
  refine ret_intro hF rfl ?_
  refine w_seq ?_
  refine w_run [0] ?_
  refine t_done [s0, (.int .i64 v1), (.bool false)] H (by kernel_rfl) ?_
  refine then_norm ?_
  refine w_seq ?_
  refine w_run [0, 0, 1, 0, 0] ?_
  refine t_call true nslices_Index__int_int [s0, (.int .i64 v1)] H (by kernel_rfl) h ?_
  clear h
  rintro _ H3 ⟨r2, rfl, h⟩
  refine t_done [s0, (.int .i64 v1), (.bool (decide (r2 ≥ 0)))] H3 (by kernel_rfl) ?_
  refine then_norm ?_
  refine w_ret ?_
  exact body_ret (vs := [(.bool (decide (r2 ≥ 0)))]) _ (by kernel_rfl) rfl h

def rf_slices_Index__int_int : RFunc := ⟨2, 8, [.var 2],
 ((.seq (.ops [⟨.move (.k (.int .i64 0)), none, (some 2), true⟩])
 ((.seq ((.seq (.ops [o1 (.move (.var 0)), ⟨.len (.loc 0), none, (some 4), true⟩, ⟨.move (.k (.int .i64 0)), none, (some 3), true⟩])
 (.block 0 (.loop ((.seq (.ops [⟨.bin .lss .no (.var 3) (.var 4), none, (some 5), true⟩])
 ((.seq (.cond (.var 5) (.skip) (.exit 0))
 ((.seq (.block 1 ((.seq (.ops [o1 (.move (.var 3)), ⟨.move (.loc 0), none, (some 6), true⟩])
 ((.seq (.ops [o1 (.move (.var 1)), o1 (.move (.var 0)), o1 (.move (.var 6)), o1 (.indexAddr 1 (.loc 1) (.loc 2)), o1 (.load none (.loc 3)), ⟨.bin .eql .no (.loc 0) (.loc 4), none, (some 7), true⟩])
 (.cond (.var 7) ((.seq (.ops [o1 (.move (.var 6)), ⟨.move (.loc 0), none, (some 2), true⟩])
 (.ret))) (.skip)))))))
 (.ops [o1 (.bin .add .no (.var 3) (.k (.int .i64 1))), ⟨.move (.loc 0), none, (some 3), true⟩])))))))))))
 ((.seq (.ops [⟨.move (.k (.int .i64 (-1))), none, (some 2), true⟩])
 (.ret))))))), none⟩
theorem v_slices_Index__int_int {F : Nat → Option RFunc} {me : Nat} (hF : F me = some (rf_slices_Index__int_int )) {fl : Nat} {H : Heap} {Q : AV → Heap → Prop} (s0 : AV) (v1 : Int)
  (h : ∃ len2 : Nat, lenA s0 = some len2 ∧ ∃ (J3 : Nat → Int → Prop) (k4 : Nat), J3 k4 0 ∧ (∀ (m5 : Nat) (v7 : Int), J3 m5 v7 → ((v7 < (len2 : Int)) → ∃ (e11 : Int), getA H 1 none s0 v7 0 = some (.int .i64 e11) ∧ ((v1 = e11) → Q (.int .i64 v7) H) ∧ (¬(v1 = e11) → ∃ m13 : Nat, m13 < m5 ∧ J3 m13 (IntKind.wrap .i64 (v7 + 1)))) ∧ (¬(v7 < (len2 : Int)) → Q (.int .i64 (-1)) H))) : Ret F fl me [s0, (.int .i64 v1)] H Q := by
  refine ret_intro hF rfl ?_
  refine w_seq ?_
  refine w_run [0] ?_
  refine t_done [s0, (.int .i64 v1), (.int .i64 0), .undef, .undef, .undef, .undef, .undef] H (by kernel_rfl) ?_
  refine then_norm ?_
  refine w_seq ?_
  refine w_seq ?_
  refine w_run [0, 1, 0] ?_
  obtain ⟨len2, hl, h⟩ := h
  refine t_len true s0 len2 H (by kernel_rfl) hl ?_
  refine t_done [s0, (.int .i64 v1), (.int .i64 0), (.int .i64 0), (.int .i64 (len2 : Int)), .undef, .undef, .undef] H (by kernel_rfl) ?_
  refine then_norm ?_
  refine w_block ?_
  obtain ⟨J3, k4, h0, h⟩ := h
  refine w_loop (I := fun mI EI HI => ∃ (d6 : AV) (v7 : Int) (d8 : AV) (d9 : AV) (d10 : AV), EI = [s0, (.int .i64 v1), d6, (.int .i64 v7), (.int .i64 (len2 : Int)), d8, d9, d10] ∧ H = HI ∧ J3 mI v7) ?_ k4 ⟨_, _, _, _, _, rfl, rfl, h0⟩
  clear h0
  rintro m5 EI HI ⟨d6, v7, d8, d9, d10, rfl, rfl, hJ⟩
  replace h := h m5 v7  hJ
  clear hJ
  refine w_seq ?_
  refine w_run [0] ?_
  refine t_done [s0, (.int .i64 v1), d6, (.int .i64 v7), (.int .i64 (len2 : Int)), (.bool (decide (v7 < (len2 : Int)))), d9, d10] H (by kernel_rfl) ?_
  refine then_norm ?_
  refine w_seq ?_
  refine w_cond (t := (decide (v7 < (len2 : Int)))) rfl (fun hc => ?_) (fun hc => ?_)
  · replace h := h.1 (is_dec.t hc)
    refine w_skip ?_
    refine then_norm ?_
    refine w_seq ?_
    refine w_block ?_
    refine w_seq ?_
    refine w_run [0, 0] ?_
    refine t_done [s0, (.int .i64 v1), d6, (.int .i64 v7), (.int .i64 (len2 : Int)), (.bool (decide (v7 < (len2 : Int)))), (.int .i64 v7), d10] H (by kernel_rfl) ?_
    refine then_norm ?_
    refine w_seq ?_
    refine w_run [0, 0, 0, 1, 1, 0] ?_
    obtain ⟨e11, hg12, h⟩ := h
    refine t_idxG true 1 s0 .i64 v7 H (by kernel_rfl) hg12 ?_
    refine t_loadG true none 1 s0 v7 0 (.int .i64 e11) H (by kernel_rfl) hg12 ?_
    refine t_done [s0, (.int .i64 v1), d6, (.int .i64 v7), (.int .i64 (len2 : Int)), (.bool (decide (v7 < (len2 : Int)))), (.int .i64 v7), (.bool (v1 == e11))] H (by kernel_rfl) ?_
    refine then_norm ?_
    refine w_cond (t := (v1 == e11)) rfl (fun hc => ?_) (fun hc => ?_)
    · replace h := h.1 (is_eq.t hc)
      refine w_seq ?_
      refine w_run [0, 0] ?_
      refine t_done [s0, (.int .i64 v1), (.int .i64 v7), (.int .i64 v7), (.int .i64 (len2 : Int)), (.bool (decide (v7 < (len2 : Int)))), (.int .i64 v7), (.bool (v1 == e11))] H (by kernel_rfl) ?_
      refine then_norm ?_
      refine w_ret ?_
      refine block_ret ?_
      refine then_ret ?_
      refine loop_ret ?_
      refine block_ret ?_
      refine then_ret ?_
      exact body_ret (vs := [(.int .i64 v7)]) _ (by kernel_rfl) rfl h
    · replace h := h.2 (is_eq.f hc)
      refine w_skip ?_
      refine block_norm ?_
      refine then_norm ?_
      refine w_run [0, 0] ?_
      refine t_done [s0, (.int .i64 v1), d6, (.int .i64 (IntKind.wrap .i64 (v7 + 1))), (.int .i64 (len2 : Int)), (.bool (decide (v7 < (len2 : Int)))), (.int .i64 v7), (.bool (v1 == e11))] H (by kernel_rfl) ?_
      obtain ⟨m', hm, h⟩ := h
      refine loop_norm ⟨m', hm, _, _, _, _, _, rfl, rfl, h⟩
  · replace h := h.2 (is_dec.f hc)
    refine w_exit ?_
    refine then_exit ?_
    refine loop_exit ?_
    refine block_exit ?_
    refine then_norm ?_
    refine w_seq ?_
    refine w_run [0] ?_
    refine t_done [s0, (.int .i64 v1), (.int .i64 (-1)), (.int .i64 v7), (.int .i64 (len2 : Int)), (.bool (decide (v7 < (len2 : Int)))), d9, d10] H (by kernel_rfl) ?_
    refine then_norm ?_
    refine w_ret ?_
    exact body_ret (vs := [(.int .i64 (-1))]) _ (by kernel_rfl) rfl h

def rf_slices_IndexFunc__int_int : RFunc := ⟨2, 8, [.var 2],
 ((.seq (.ops [⟨.move (.k (.int .i64 0)), none, (some 2), true⟩])
 ((.seq ((.seq (.ops [o1 (.move (.var 0)), ⟨.len (.loc 0), none, (some 4), true⟩, ⟨.move (.k (.int .i64 0)), none, (some 3), true⟩])
 (.block 0 (.loop ((.seq (.ops [⟨.bin .lss .no (.var 3) (.var 4), none, (some 5), true⟩])
 ((.seq (.cond (.var 5) (.skip) (.exit 0))
 ((.seq (.block 1 ((.seq (.ops [o1 (.move (.var 3)), ⟨.move (.loc 0), none, (some 6), true⟩])
 ((.seq (.ops [o1 (.move (.var 1)), o1 (.move (.var 0)), o1 (.move (.var 6)), o1 (.indexAddr 1 (.loc 1) (.loc 2)), o1 (.load none (.loc 3)), ⟨.call (.loc 0) [(.loc 4)], none, (some 7), true⟩])
 (.cond (.var 7) ((.seq (.ops [o1 (.move (.var 6)), ⟨.move (.loc 0), none, (some 2), true⟩])
 (.ret))) (.skip)))))))
 (.ops [o1 (.bin .add .no (.var 3) (.k (.int .i64 1))), ⟨.move (.loc 0), none, (some 3), true⟩])))))))))))
 ((.seq (.ops [⟨.move (.k (.int .i64 (-1))), none, (some 2), true⟩])
 (.ret))))))), none⟩
theorem v_slices_IndexFunc__int_int {F : Nat → Option RFunc} {me : Nat} (hF : F me = some (rf_slices_IndexFunc__int_int )) {fl : Nat} {H : Heap} {Q : AV → Heap → Prop} (s0 : AV) (fg1 : Nat) (fc2 : List AV)
  (h : ∃ len3 : Nat, lenA s0 = some len3 ∧ ∃ (J4 : Nat → Int → Heap → Prop) (k5 : Nat), J4 k5 0 H ∧ (∀ (m6 : Nat) (v8 : Int) (H12 : Heap), J4 m6 v8 H12 → ((v8 < (len3 : Int)) → ∃ (e13 : Int), getA H12 1 none s0 v8 0 = some (.int .i64 e13) ∧ Ret F fl fg1 (([(.int .i64 e13)] : List AV) ++ fc2) H12 (fun v17 H16 => ∃ (r15 : Bool), v17 = (.bool r15) ∧ ((r15 = true) → Q (.int .i64 v8) H16) ∧ (¬(r15 = true) → ∃ m18 : Nat, m18 < m6 ∧ J4 m18 (IntKind.wrap .i64 (v8 + 1)) H16))) ∧ (¬(v8 < (len3 : Int)) → Q (.int .i64 (-1)) H12))) : Ret F fl me [s0, (.func fg1 fc2)] H Q := by
  refine ret_intro hF rfl ?_
  refine w_seq ?_
  refine w_run [0] ?_
  refine t_done [s0, (.func fg1 fc2), (.int .i64 0), .undef, .undef, .undef, .undef, .undef] H (by kernel_rfl) ?_
  refine then_norm ?_
  refine w_seq ?_
  refine w_seq ?_
  refine w_run [0, 1, 0] ?_
  obtain ⟨len3, hl, h⟩ := h
  refine t_len true s0 len3 H (by kernel_rfl) hl ?_
  refine t_done [s0, (.func fg1 fc2), (.int .i64 0), (.int .i64 0), (.int .i64 (len3 : Int)), .undef, .undef, .undef] H (by kernel_rfl) ?_
  refine then_norm ?_
  refine w_block ?_
  obtain ⟨J4, k5, h0, h⟩ := h
  refine w_loop (I := fun mI EI HI => ∃ (d7 : AV) (v8 : Int) (d9 : AV) (d10 : AV) (d11 : AV), EI = [s0, (.func fg1 fc2), d7, (.int .i64 v8), (.int .i64 (len3 : Int)), d9, d10, d11] ∧ J4 mI v8 HI) ?_ k5 ⟨_, _, _, _, _, rfl, h0⟩
  clear h0
  rintro m6 EI H12 ⟨d7, v8, d9, d10, d11, rfl, hJ⟩
  replace h := h m6 v8 H12 hJ
  clear hJ
  refine w_seq ?_
  refine w_run [0] ?_
  refine t_done [s0, (.func fg1 fc2), d7, (.int .i64 v8), (.int .i64 (len3 : Int)), (.bool (decide (v8 < (len3 : Int)))), d10, d11] H12 (by kernel_rfl) ?_
  refine then_norm ?_
  refine w_seq ?_
  refine w_cond (t := (decide (v8 < (len3 : Int)))) rfl (fun hc => ?_) (fun hc => ?_)
  · replace h := h.1 (is_dec.t hc)
    refine w_skip ?_
    refine then_norm ?_
    refine w_seq ?_
    refine w_block ?_
    refine w_seq ?_
    refine w_run [0, 0] ?_
    refine t_done [s0, (.func fg1 fc2), d7, (.int .i64 v8), (.int .i64 (len3 : Int)), (.bool (decide (v8 < (len3 : Int)))), (.int .i64 v8), d11] H12 (by kernel_rfl) ?_
    refine then_norm ?_
    refine w_seq ?_
    refine w_run [0, 0, 0, 1, 1, 1] ?_
    obtain ⟨e13, hg14, h⟩ := h
    refine t_idxG true 1 s0 .i64 v8 H12 (by kernel_rfl) hg14 ?_
    refine t_loadG true none 1 s0 v8 0 (.int .i64 e13) H12 (by kernel_rfl) hg14 ?_
    refine t_call true fg1 (([(.int .i64 e13)] : List AV) ++ fc2) H12 (by kernel_rfl) h ?_
    clear h
    rintro _ H16 ⟨r15, rfl, h⟩
    refine t_done [s0, (.func fg1 fc2), d7, (.int .i64 v8), (.int .i64 (len3 : Int)), (.bool (decide (v8 < (len3 : Int)))), (.int .i64 v8), (.bool r15)] H16 (by kernel_rfl) ?_
    refine then_norm ?_
    refine w_cond (t := r15) rfl (fun hc => ?_) (fun hc => ?_)
    · replace h := h.1 (is_raw.t hc)
      refine w_seq ?_
      refine w_run [0, 0] ?_
      refine t_done [s0, (.func fg1 fc2), (.int .i64 v8), (.int .i64 v8), (.int .i64 (len3 : Int)), (.bool (decide (v8 < (len3 : Int)))), (.int .i64 v8), (.bool r15)] H16 (by kernel_rfl) ?_
      refine then_norm ?_
      refine w_ret ?_
      refine block_ret ?_
      refine then_ret ?_
      refine loop_ret ?_
      refine block_ret ?_
      refine then_ret ?_
      exact body_ret (vs := [(.int .i64 v8)]) _ (by kernel_rfl) rfl h
    · replace h := h.2 (is_raw.f hc)
      refine w_skip ?_
      refine block_norm ?_
      refine then_norm ?_
      refine w_run [0, 0] ?_
      refine t_done [s0, (.func fg1 fc2), d7, (.int .i64 (IntKind.wrap .i64 (v8 + 1))), (.int .i64 (len3 : Int)), (.bool (decide (v8 < (len3 : Int)))), (.int .i64 v8), (.bool r15)] H16 (by kernel_rfl) ?_
      obtain ⟨m', hm, h⟩ := h
      refine loop_norm ⟨m', hm, _, _, _, _, _, rfl, h⟩
  · replace h := h.2 (is_dec.f hc)
    refine w_exit ?_
    refine then_exit ?_
    refine loop_exit ?_
    refine block_exit ?_
    refine then_norm ?_
    refine w_seq ?_
    refine w_run [0] ?_
    refine t_done [s0, (.func fg1 fc2), (.int .i64 (-1)), (.int .i64 v8), (.int .i64 (len3 : Int)), (.bool (decide (v8 < (len3 : Int)))), d10, d11] H12 (by kernel_rfl) ?_
    refine then_norm ?_
    refine w_ret ?_
    exact body_ret (vs := [(.int .i64 (-1))]) _ (by kernel_rfl) rfl h

end Go.RM

/-
  Functions of package slices: what they return.
-/
namespace Go.RM
set_option linter.unusedSimpArgs false
set_option linter.unusedVariables false

def fidx {α : Type} (p : α → Bool) (l : List α) : Int := match l.findIdx? p with | some i => (i : Int) | none => -1

theorem fidx_nonneg {α : Type} (p : α → Bool) (l : List α) : decide (fidx p l ≥ 0) = l.any p := by
  unfold fidx
  cases h : l.findIdx? p with
  | none =>
    rw [List.findIdx?_eq_none_iff] at h
    simp only [ge_iff_le]
    have : l.any p = false := by rw [List.any_eq_false]; intro x hx; simp [h x hx]
    rw [this]; rfl
  | some i =>
    obtain ⟨h1, h2, _⟩ := List.findIdx?_eq_some_iff_getElem.1 h
    have : l.any p = true := List.any_eq_true.2 ⟨_, List.getElem_mem h1, h2⟩
    rw [this]; simp

theorem fidx_hit {α : Type} {p : α → Bool} {l : List α} {i : Nat} (h : i < l.length) (hp : p l[i] = true) (hn : ∀ x ∈ l.take i, p x = false) : fidx p l = i := by
  unfold fidx
  rw [List.findIdx?_eq_some_iff_getElem.2 ⟨h, hp, fun j hj => by
    have := hn l[j] (by rw [List.mem_take_iff_getElem]; exact ⟨j, by omega, rfl⟩)
    simp [this]⟩]
theorem fidx_none {α : Type} {p : α → Bool} {l : List α} (hn : ∀ x ∈ l, p x = false) : fidx p l = -1 := by
  unfold fidx
  rw [List.findIdx?_eq_none_iff.2 hn]

theorem take_step {α : Type} {p : α → Bool} {l : List α} {i : Nat} (h : i < l.length) (hp : p l[i] = false) (hn : ∀ x ∈ l.take i, p x = false) : ∀ x ∈ l.take (i + 1), p x = false := by
  intro x hx
  rw [List.take_succ_eq_append_getElem h, List.mem_append, List.mem_singleton] at hx
  rcases hx with hx | rfl
  · exact hn x hx
  · exact hp

variable {F : Nat → Option RFunc}

abbrev IndexIC (F : Nat → Option RFunc) (f : Nat) : Prop := ∀ {fl H Q v l n}, Ints H v l → Q (i64 (fidx (fun x => x == n) l)) H → Ret F fl f [v, i64 n] H Q
theorem indexI_c {f : Nat} (hF : F f = some rf_slices_Index__int_int) : IndexIC F f := fun {fl H Q v l n} hv hq => by
  refine v_slices_Index__int_int hF _ _ ?_
  refine ⟨_, hv.len, fun m v => ∃ i : Nat, v = i ∧ i + m = l.length ∧ ∀ x ∈ l.take i, (x == n) = false, l.length, ⟨0, rfl, by omega, by simp⟩, ?_⟩
  rintro m _ ⟨i, rfl, hm, hi⟩
  refine ⟨fun hlt => ?_, fun hge => ?_⟩
  · have hil : i < l.length := by omega
    refine ⟨_, hv.int hil, fun he => ?_, fun hne => ⟨m - 1, by omega, i + 1, wsucc hil hv.small, by omega, take_step (p := fun x => x == n) hil (by simpa using fun h => hne h.symm) hi⟩⟩
    rw [fidx_hit hil (by simp [he]) hi] at hq; exact hq
  · rw [List.take_of_length_le (by omega)] at hi
    rw [fidx_none hi] at hq; exact hq

abbrev ContainsIC (F : Nat → Option RFunc) (f : Nat) : Prop := ∀ {fl H Q v l n}, Ints H v l → Q (.bool (decide (n ∈ l))) H → Ret F fl f [v, i64 n] H Q
theorem containsI_c {f n1 : Nat} (hF : F f = some (rf_slices_Contains__int_int n1)) (h1 : IndexIC F n1) : ContainsIC F f := fun {fl H Q v l n} hv hq => by
  refine v_slices_Contains__int_int hF _ _ ?_
  refine h1 hv ⟨_, rfl, ?_⟩
  rw [fidx_nonneg]
  have : l.any (fun x => x == n) = decide (n ∈ l) := by
    rw [Bool.eq_iff_iff, List.any_eq_true, decide_eq_true_eq]
    constructor
    · rintro ⟨x, hx, he⟩; simp at he; rw [← he]; exact hx
    · intro h; exact ⟨n, h, by simp⟩
  rw [this]; exact hq

def Tests (F : Nat → Option RFunc) {α : Type} (T : Ty α) (fl : Nat) (H : Heap) (g : Nat) (caps : List AV) (l : List α) (p : α → Bool) : Prop :=
  ∀ (c : AV) (a : α) (H' : Heap), a ∈ l → Keep H.length H H' → T.rel H' [c] a → Ret F fl g ([c] ++ caps) H' fun v H'' => v = .bool (p a) ∧ Keep H'.length H' H''

abbrev IndexFuncIC (F : Nat → Option RFunc) (f : Nat) : Prop := ∀ {fl H Q v l g caps p}, Ints H v l → Tests F tInt fl H g caps l p → (∀ H', Keep H.length H H' → Q (i64 (fidx p l)) H') → Ret F fl f [v, .func g caps] H Q
theorem indexFuncI_c {f : Nat} (hF : F f = some rf_slices_IndexFunc__int_int) : IndexFuncIC F f := fun {fl H Q v l g caps p} hv ht hq => by
  refine v_slices_IndexFunc__int_int hF _ _ _ ?_
  refine ⟨_, hv.len, fun m v H' => ∃ i : Nat, v = i ∧ i + m = l.length ∧ Keep H.length H H' ∧ ∀ x ∈ l.take i, p x = false, l.length, ⟨0, rfl, by omega, Keep.refl H, by simp⟩, ?_⟩
  rintro m _ H' ⟨i, rfl, hm, hk, hi⟩
  refine ⟨fun hlt => ?_, fun hge => ?_⟩
  · have hil : i < l.length := by omega
    refine ⟨_, (hv.keep hk).int hil, (ht _ l[i] H' (List.getElem_mem hil) hk rfl).mono ?_⟩
    rintro _ H2 ⟨rfl, hk2⟩
    refine ⟨_, rfl, fun he => ?_, fun hne => ⟨m - 1, by omega, i + 1, wsucc hil hv.small, by omega, hk.call hk2, take_step hil (by simpa using hne) hi⟩⟩
    have := hq H2 (hk.call hk2)
    rw [fidx_hit hil he hi] at this; exact this
  · rw [List.take_of_length_le (by omega)] at hi
    have := hq H' hk
    rw [fidx_none hi] at this; exact this

end Go.RM

/-
  Package rollout: rings that are written in place.
-/
namespace Go.RM
set_option linter.unusedSimpArgs false
set_option linter.unusedVariables false
set_option maxRecDepth 4000

namespace Rol
structure RS where
  conf : List Int
  act : Int
  good : Int
  bad : Int
structure PP where
  b1 : Int
  b2 : Int
  need : Int
  pm : Int
def rm (v : Int) (l : List Int) : List Int := l.eraseIdx (l.findIdx (fun x => x == v))
end Rol
open Rol

variable {F : Nat → Option RFunc}

abbrev ints (l : List Int) : List AV := l.map fun x => AV.int .i64 x
theorem Own.ints {n : Nat} {H : Heap} {v : AV} {l : List Int} (h : Own n H 1 v l.length (Go.RM.ints l)) : Ints H v l := by
  refine ⟨l.map fun x => [AV.int .i64 x], All2.ints l, ?_⟩
  rw [← Row.flat]; exact h.sl

/-! ### The rings on the heap -/

abbrev ringC (x : AV × RS) : List AV := [x.1, i64 x.2.act, i64 x.2.good, i64 x.2.bad]
def planC (p : PP) (b n : Nat) : List AV := [i64 p.b1, i64 p.b2, i64 p.need, i64 p.pm, .slice b 0 n (some n)]

structure RingsH (n : Nat) (H : Heap) (pb b : Nat) (l : List (AV × RS)) : Prop where
  row : MRow H b 4 (l.map ringC)
  lo : n ≤ b
  own : ∀ x ∈ l, Own n H 1 x.1 x.2.conf.length (ints x.2.conf)
  sep : ∀ i j (hi : i < l.length) (hj : j < l.length), i ≠ j → ∀ c, At l[i].1 c → ¬ At l[j].1 c
  offb : ∀ x ∈ l, ¬ At x.1 b ∧ ¬ At x.1 pb
  ne : pb ≠ b
  small : l.length ≤ 5

structure St (n : Nat) (H : Heap) (pb b : Nat) (p : PP) (l : List (AV × RS)) : Prop extends RingsH n H pb b l where
  box : Box H pb (planC p b l.length)

variable {n : Nat} {H H' : Heap} {pb b : Nat} {p : PP} {l : List (AV × RS)}

theorem St.keep (h : St n H pb b p l) (k : Keep H.length H H') : St n H' pb b p l where
  row := h.row.keep k
  lo := h.lo
  own := fun x hx => (h.own x hx).keep k
  sep := h.sep
  offb := h.offb
  ne := h.ne
  small := h.small
  box := h.box.frame (k.get pb h.box.lt)

theorem St.bn (h : St n H pb b p l) : n ≤ H.length := Nat.le_trans h.lo (Nat.le_of_lt h.row.lt)
theorem St.ptr (h : St n H pb b p l) {i : Nat} (hi : i < l.length) : ptrA 4 (.slice b 0 l.length (some l.length)) (i : Int) = some (b, i * 4) := MRow.ptr hi
theorem St.cell (h : St n H pb b p l) {i : Nat} (hi : i < l.length) {o : Nat} {x : AV} (hx : (ringC l[i])[o]? = some x) : rload H none b (i * 4 + o) = some x := h.row.load (i := i) (c := ringC l[i]) (by simp [hi]) hx
theorem St.conf (h : St n H pb b p l) {i : Nat} (hi : i < l.length) : rload H none b (i * 4) = some l[i].1 := h.cell hi (o := 0) rfl
theorem St.act (h : St n H pb b p l) {i : Nat} (hi : i < l.length) : rload H none b (i * 4 + 1) = some (i64 l[i].2.act) := h.cell hi rfl

theorem RingsH.bn (h : RingsH n H pb b l) : n ≤ H.length := Nat.le_trans h.lo (Nat.le_of_lt h.row.lt)
/-! ### abort -/

namespace Rol
end Rol

abbrev rs (l : List (AV × RS)) : List RS := l.map (·.2)

end Go.RM

/-
  Package mergequeue: the queue on the heap, and what slices' functions do with its entries.
-/
namespace Go.RM
set_option linter.unusedSimpArgs false
set_option linter.unusedVariables false
set_option maxRecDepth 4000

namespace Mq
structure Ent where
  ch : Int
  pr : Int
  te : Bool
  pa : Bool
  fa : Bool
  af : List Int
  deriving DecidableEq
structure QS where
  es : List Ent
  la : List Int
  re : List Int
structure Ev where
  k : Int
  c : Int
  p : Int
abbrev mk (c p : Int) : Ent := ⟨c, p, false, false, false, []⟩
abbrev blank (e : Ent) : Ent := mk e.ch e.pr
def resetFrom (i : Nat) (l : List Ent) : List Ent := l.mapIdx fun k e => if i ≤ k then blank e else e
def posE (p : Int) (l : List Ent) : Nat := l.findIdx fun e => decide (e.pr < p)
def addE (q : QS) (c p : Int) : QS × Int :=
  if q.es.any (fun e => e.ch == c) || decide (c ∈ q.la) || decide (c ∈ q.re) then (q, 7)
  else if 10 ≤ q.es.length then (q, 14)
  else ({ q with es := resetFrom (posE p q.es) (q.es.take (posE p q.es) ++ mk c p :: q.es.drop (posE p q.es)) }, 0)
def resE (e : Ent) (k : Int) : Ent := { e with te := false, pa := k == 3, fa := k == 4 }
def stepE (q : QS) (x : Ev) : QS × Int :=
  if x.k < 1 ∨ x.k > 4 then (q, 4)
  else if x.c < 1 ∨ x.c > 1000000000 ∨ x.p < 0 ∨ x.p > 3 then (q, 3)
  else if x.k ≠ 1 ∧ x.p ≠ 0 then (q, 5)
  else if x.k = 1 then addE q x.c x.p
  else
    match q.es.findIdx? (fun e => e.ch == x.c) with
    | none => (q, 6)
    | some i =>
      if x.k = 2 then ({ q with es := resetFrom i (q.es.eraseIdx i) }, 0)
      else match q.es[i]? with
        | some e => if e.te then ({ q with es := q.es.set i (resE e x.k) }, 0) else (q, 11)
        | none => (q, 6)
end Mq
open Mq

variable {F : Nat → Option RFunc}

abbrev entC (x : AV × Ent) : List AV := [i64 x.2.ch, i64 x.2.pr, .bool x.2.te, .bool x.2.pa, .bool x.2.fa, x.1]
theorem entC_len (x : AV × Ent) : (entC x).length = 6 := rfl
theorem entC_lens (l : List (AV × Ent)) : ∀ c ∈ l.map entC, c.length = 6 := by
  intro c hc; obtain ⟨x, _, rfl⟩ := List.mem_map.1 hc; rfl

def tEnt : Ty Ent where
  e := 6
  rel H c x := ∃ v, c = entC (v, x) ∧ Ints H v x.af
  pos := by decide
  len h := by obtain ⟨v, rfl, _⟩ := h; rfl
  scal h := by
    obtain ⟨v, rfl, h⟩ := h
    show (true && (true && (true && (true && (true && (v.scalar && true)))))) = true
    rw [h.scal.2]; rfl
  keep k h := by obtain ⟨v, rfl, h⟩ := h; exact ⟨v, rfl, h.keep k⟩

def tEv : Ty Ev := tEnc 3 (fun x => [i64 x.k, i64 x.c, i64 x.p]) (by decide) (fun _ => rfl) (fun _ => rfl)

structure EntsH (n : Nat) (H : Heap) (ve : AV) (l : List (AV × Ent)) : Prop where
  own : Own n H 6 ve l.length (l.map entC).flatten
  nolim : NoLim ve
  af : ∀ x ∈ l, Own n H 1 x.1 x.2.af.length (ints x.2.af)
  off : ∀ x ∈ l, ∀ b, At x.1 b → ¬ At ve b

variable {n : Nat} {H H' : Heap} {ve : AV} {l : List (AV × Ent)}

theorem EntsH.nil : EntsH n H .empty [] := ⟨Own.nil, (fun b o k lim h => by cases h), (fun x hx => by cases hx), (fun x hx => by cases hx)⟩
theorem EntsH.keep (h : EntsH n H ve l) (k : Keep H.length H H') : EntsH n H' ve l := ⟨h.own.keep k, h.nolim, fun x hx => (h.af x hx).keep k, h.off⟩
theorem EntsH.frame (h : EntsH n H ve l) (hf : ∀ b, (At ve b ∨ ∃ x ∈ l, At x.1 b) → H'[b]? = H[b]?) : EntsH n H' ve l :=
  ⟨h.own.frame fun b hb => hf b (.inl hb), h.nolim, fun x hx => (h.af x hx).frame fun b hb => hf b (.inr ⟨x, hx, hb⟩), h.off⟩
theorem EntsH.all2 (h : EntsH n H ve l) : All2 (tEnt.rel H) (l.map entC) (l.map (·.2)) := by
  have : ∀ x ∈ l, Ints H x.1 x.2.af := fun x hx => (h.af x hx).ints
  clear h
  induction l with
  | nil => trivial
  | cons x l ih => exact ⟨⟨x.1, rfl, this x (by simp)⟩, ih fun y hy => this y (by simp [hy])⟩
theorem EntsH.arr (h : EntsH n H ve l) : Arr tEnt H ve (l.map (·.2)) := ⟨l.map entC, h.all2, by rw [List.length_map]; exact h.own.sl⟩
theorem EntsH.scal (h : EntsH n H ve l) : (l.map entC).flatten.all AV.scalar = true := h.all2.scals
theorem EntsH.at_lt (h : EntsH n H ve l) {b : Nat} (hb : At ve b ∨ ∃ x ∈ l, At x.1 b) : n ≤ b ∧ b < H.length := by
  rcases hb with hb | ⟨x, hx, hb⟩
  · exact h.own.at_lt hb
  · exact (h.af x hx).at_lt hb

theorem flat_eraseIdx : ∀ (l : List (AV × Ent)) (i : Nat), i < l.length → ((l.eraseIdx i).map entC).flatten = (l.map entC).flatten.take (i * 6) ++ (l.map entC).flatten.drop ((i + 1) * 6) := fun l i hi => by
  rw [flat_take i (entC_lens l), flat_drop (i + 1) (entC_lens l), List.eraseIdx_eq_take_drop_succ, List.map_append, List.map_take, List.map_drop, List.flatten_append]

theorem mem_erase {α : Type} {l : List α} {i : Nat} {x : α} (h : x ∈ l.eraseIdx i) : x ∈ l := by
  rw [List.eraseIdx_eq_take_drop_succ, List.mem_append] at h
  rcases h with h | h
  · exact List.mem_of_mem_take h
  · exact List.mem_of_mem_drop h

abbrev DeleteEC (F : Nat → Option RFunc) (f : Nat) : Prop := ∀ {fl H Q n ve} {l : List (AV × Ent)} {i : Nat}, EntsH n H ve l → i < l.length → fl ≤ n → l.length ≤ 2 ^ 20 →
  (∀ w H', EntsH n H' w (l.eraseIdx i) → H'.length = H.length → (∀ b, ¬ At ve b → H'[b]? = H[b]?) → (∀ b, At w b → At ve b) → Q w H') → Ret F fl f [ve, i64 (i : Int), i64 ((i + 1 : Nat) : Int)] H Q
theorem deleteE_c {f : Nat} (hF : F f = some rf_slices_Delete__api_QueueEntry_api_QueueEntry) : DeleteEC F f := fun {fl H Q n ve l i} hv hi hfl hl hq => by
  refine v_slices_Delete__api_QueueEntry_api_QueueEntry hF _ _ _ ?_
  obtain ⟨a1, ⟨s, a2⟩, s6, s7, a3, a4, w, H9, s11, H12, a5, a6, a7, a8, a9, a10, a11, a12, a13⟩ := hv.own.delE (bytes := 48) (z := [i64 0, i64 0, .bool false, .bool false, .bool false, .empty]) (by decide) hi hfl (by omega) (by decide) hv.scal rfl rfl
  refine ⟨_, a1, s, a2, fun h => by omega, fun _ => ⟨_, a1, s6, a3, s7, a4, w, H9, a5, _, a6, s11, a7, H12, a8, hq w H12 ⟨?_, ?_, ?_, ?_⟩ a10 a11 a12⟩⟩
  · rw [flat_eraseIdx l i hi, List.length_eraseIdx, if_pos hi]; exact a9
  · intro b o k lim he
    obtain ⟨o', k', he'⟩ := a13 b o k lim he
    exact hv.nolim _ _ _ _ he'
  · exact fun x hx => (hv.af x (mem_erase hx)).frame fun b hb => a11 b (hv.off x (mem_erase hx) b hb)
  · exact fun x hx b hb hw => hv.off x (mem_erase hx) b hb (a12 b hw)

abbrev InsertEC (F : Nat → Option RFunc) (f : Nat) : Prop := ∀ {fl H H1 Q n ve vb} {l : List (AV × Ent)} {i : Nat} {c p : Int}, EntsH n H ve l → NewB H 6 [i64 c, i64 p, .bool false, .bool false, .bool false, .empty] vb H1 → n ≤ H.length → i ≤ l.length → fl ≤ n → l.length ≤ 2 ^ 20 →
  (∀ w H', EntsH n H' w (l.take i ++ (.empty, mk c p) :: l.drop i) → H1.length ≤ H'.length → (∀ b, b < H1.length → ¬ At ve b → H'[b]? = H1[b]?) → (∀ b, At w b → At ve b ∨ H1.length ≤ b) → Q w H') → Ret F fl f [ve, i64 (i : Int), .slice vb 0 1 (some 1)] H1 Q
theorem insertE_c {f : Nat} (hF : F f = some rf_slices_Insert__api_QueueEntry_api_QueueEntry) : InsertEC F f := fun {fl H H1 Q n ve vb l i c p} hv hy hn hi hfl hl hq => by
  obtain ⟨w, H', a1, a2, a3, a4, a5, a6⟩ := hv.own.insert (bytes := 48) (i := i) (fl := fl) (by decide) hv.nolim hy rfl rfl hv.scal hn hi hfl hl (by decide)
  refine ret_prim hF rfl a1 (hq w H' ⟨?_, a3, ?_, ?_⟩ a4 a5 a6)
  · rw [flat_take i (entC_lens l), flat_drop i (entC_lens l)] at a2
    have e1 : ((l.take i ++ (AV.empty, mk c p) :: l.drop i).map entC).flatten = ((l.map entC).take i).flatten ++ [i64 c, i64 p, .bool false, .bool false, .bool false, .empty] ++ ((l.map entC).drop i).flatten := by
      rw [List.map_append, List.map_cons, List.map_take, List.map_drop, List.flatten_append, List.flatten_cons, List.append_assoc]
    rw [e1]
    have e2 : (l.take i ++ (AV.empty, mk c p) :: l.drop i).length = l.length + 1 := by rw [List.length_append, List.length_take, List.length_cons, List.length_drop]; omega
    rw [e2]; exact a2
  · intro x hx
    rcases List.mem_append.1 hx with hx | hx
    · have hm := List.mem_of_mem_take hx
      exact ((hv.af x hm).keep hy.keep).frame fun b hb => a5 b (Nat.lt_of_lt_of_le ((hv.af x hm).at_lt hb).2 hy.keep.len) (hv.off x hm b hb)
    · rcases List.mem_cons.1 hx with rfl | hx
      · exact Own.nil
      · have hm := List.mem_of_mem_drop hx
        exact ((hv.af x hm).keep hy.keep).frame fun b hb => a5 b (Nat.lt_of_lt_of_le ((hv.af x hm).at_lt hb).2 hy.keep.len) (hv.off x hm b hb)
  · intro x hx b hb hw
    have key : x ∈ l → False := fun hm => by
      rcases a6 b hw with h | h
      · exact hv.off x hm b hb h
      · have := ((hv.af x hm).at_lt hb).2
        have := hy.keep.len
        omega
    rcases List.mem_append.1 hx with hx | hx
    · exact key (List.mem_of_mem_take hx)
    · rcases List.mem_cons.1 hx with rfl | hx
      · exact at_empty hb
      · exact key (List.mem_of_mem_drop hx)

abbrev CloneIC (F : Nat → Option RFunc) (f : Nat) : Prop := ∀ {fl H Q v} {l : List Int} (n : Nat), Ints H v l → n ≤ H.length → l.length ≤ 2 ^ 20 → (∀ w H', Keep H.length H H' → Own n H' 1 w l.length (ints l) → (∀ b, At w b → H.length ≤ b) → Q w H') → Ret F fl f [v] H Q
theorem cloneI_c {f : Nat} (hF : F f = some rf_slices_Clone__int_int) : CloneIC F f := fun {fl H Q v l} n hv hn hl hq => by
  obtain ⟨css, h1, h2⟩ := hv
  have hcss : css = l.map fun x => [AV.int .i64 x] := by
    clear hq h2 hl
    induction l generalizing css with
    | nil => cases css with
      | nil => rfl
      | cons _ _ => exact h1.elim
    | cons x l ih => cases css with
      | nil => exact h1.elim
      | cons c css => rw [List.map_cons, ← ih css h1.2, show c = [AV.int .i64 x] from h1.1]
  subst hcss
  rw [← Row.flat] at h2
  obtain ⟨c1, c2⟩ := sl_cells h2
  have h2' : sliceCells H 1 l.length v = some (ints l) := c2
  by_cases h0 : l.length = 0
  · obtain rfl := List.eq_nil_of_length_eq_zero h0
    refine ret_prim (v := .empty) (H' := H) hF rfl ?_ (hq .empty H (Keep.refl H) Own.nil fun b hb => absurd hb at_empty)
    show rclone 1 8 H v = _
    unfold rclone; rw [c1]; rfl
  · refine ret_prim (v := .slice H.length 0 l.length none) (H' := H ++ [{ cells := ints l, e := 1 }]) hF rfl ?_ (hq _ _ (Keep.app _ _) ⟨by omega, .inr ⟨H.length, 0, none, { cells := ints l, e := 1 }, rfl, hn, snoc_end _ _, rfl, rfl, by simp, by
      show ints l = ((ints l).drop 0).take (l.length * 1)
      rw [List.drop_zero, Nat.mul_one, List.take_of_length_le (by simp)], ⟨l.length, by simp⟩, fun c hc => by cases hc⟩⟩ fun b hb => Nat.le_of_eq (at_slice.same hb))
    show rclone 1 8 H v = _
    unfold rclone; rw [c1]
    simp only
    rw [if_neg h0, if_pos ⟨by decide, by omega, by omega⟩, h2']
    rfl

end Go.RM

/-
  Package mergequeue: the queue's own functions.
-/
namespace Go.RM
set_option linter.unusedSimpArgs false
set_option linter.unusedVariables false
set_option maxRecDepth 4000
open Mq

variable {F : Nat → Option RFunc}

structure Evo (n : Nat) (H H' : Heap) (f f' : Nat → Prop) : Prop where
  low : n ≤ H.length
  len : H.length ≤ H'.length
  ge : ∀ b, f b → n ≤ b
  fr : ∀ b, b < H.length → ¬ f b → H'[b]? = H[b]?
  sub : ∀ b, f' b → f b ∨ H.length ≤ b

theorem Evo.keep {n : Nat} {H H' : Heap} {f f' : Nat → Prop} (h : Evo n H H' f f') : Keep n H H' := ⟨h.low, h.len, fun b hb => h.fr b (Nat.lt_of_lt_of_le hb h.low) fun hf => by have := h.ge b hf; omega⟩
theorem Evo.trans {n : Nat} {H H1 H2 : Heap} {f f1 f2 : Nat → Prop} (a : Evo n H H1 f f1) (b : Evo n H1 H2 f1 f2) : Evo n H H2 f f2 :=
  ⟨a.low, Nat.le_trans a.len b.len, a.ge, fun x hx hf => by
    rw [b.fr x (Nat.lt_of_lt_of_le hx a.len) fun h => by
      rcases a.sub x h with h | h
      · exact hf h
      · omega, a.fr x hx hf], fun x hx => by
    rcases b.sub x hx with h | h
    · exact a.sub x h
    · exact .inr (Nat.le_trans a.len h)⟩
theorem Evo.of {n : Nat} {H H' : Heap} {f : Nat → Prop} (hn : n ≤ H.length) (hg : ∀ b, f b → n ≤ b) (k : Keep H.length H H') : Evo n H H' f f := ⟨hn, k.len, hg, fun b hb _ => k.get b hb, fun b hb => .inl hb⟩

structure QSt (n : Nat) (H : Heap) (qb : Nat) (w : Int) (ve vl vr : AV) (l : List (AV × Ent)) (la re : List Int) : Prop where
  ents : EntsH n H ve l
  box : Box H qb [ve, vl, vr, i64 w]
  lo : n ≤ qb
  la : Own n H 1 vl la.length (ints la)
  re : Own n H 1 vr re.length (ints re)
  qe : ¬ At ve qb
  ql : ¬ At vl qb
  qr : ¬ At vr qb
  el : ∀ b, At vl b → ¬ At ve b
  er : ∀ b, At vr b → ¬ At ve b
  lr : ∀ b, At vl b → ¬ At vr b
  aq : ∀ x ∈ l, ∀ b, At x.1 b → b ≠ qb ∧ ¬ At vl b ∧ ¬ At vr b

def QFoot (qb : Nat) (ve vl vr : AV) (l : List (AV × Ent)) (b : Nat) : Prop := b = qb ∨ At ve b ∨ At vl b ∨ At vr b ∨ ∃ x ∈ l, At x.1 b

section
variable {n qb : Nat} {H H1 H' : Heap} {w : Int} {ve vl vr ve' : AV} {l l' : List (AV × Ent)} {la re : List Int}

theorem QSt.bn (h : QSt n H qb w ve vl vr l la re) : n ≤ H.length := Nat.le_trans h.lo (Nat.le_of_lt h.box.lt)
theorem QSt.foot_lt (h : QSt n H qb w ve vl vr l la re) {b : Nat} (hb : QFoot qb ve vl vr l b) : n ≤ b ∧ b < H.length := by
  rcases hb with rfl | hb | hb | hb | hb
  · exact ⟨h.lo, h.box.lt⟩
  · exact h.ents.at_lt (.inl hb)
  · exact h.la.at_lt hb
  · exact h.re.at_lt hb
  · exact h.ents.at_lt (.inr hb)
theorem QSt.frame (h : QSt n H qb w ve vl vr l la re) (hf : ∀ b, QFoot qb ve vl vr l b → H'[b]? = H[b]?) : QSt n H' qb w ve vl vr l la re :=
  { h with ents := h.ents.frame fun b hb => hf b (by rcases hb with hb | hb; exact .inr (.inl hb); exact .inr (.inr (.inr (.inr hb))))
           box := h.box.frame (hf qb (.inl rfl)), la := h.la.frame fun b hb => hf b (.inr (.inr (.inl hb))), re := h.re.frame fun b hb => hf b (.inr (.inr (.inr (.inl hb)))) }
theorem QSt.keep (h : QSt n H qb w ve vl vr l la re) (k : Keep H.length H H') : QSt n H' qb w ve vl vr l la re := h.frame fun b hb => k.get b (h.foot_lt hb).2
theorem QSt.evo (h : QSt n H qb w ve vl vr l la re) (k : Keep H.length H H') : Evo n H H' (QFoot qb ve vl vr l) (QFoot qb ve vl vr l) := Evo.of h.bn (fun b hb => (h.foot_lt hb).1) k

theorem QSt.entries (h : QSt n H qb w ve vl vr l la re) : rload H none qb 0 = some ve := h.box.load rfl
theorem QSt.landed (h : QSt n H qb w ve vl vr l la re) : rload H none qb (0 + 1) = some vl := h.box.load rfl
theorem QSt.rejected (h : QSt n H qb w ve vl vr l la re) : rload H none qb (0 + 2) = some vr := h.box.load rfl
theorem QSt.window (h : QSt n H qb w ve vl vr l la re) : rload H none qb (0 + 3) = some (i64 w) := h.box.load rfl

theorem QSt.entsIn (h : QSt n H qb w ve vl vr l la re) (hE : EntsH n H1 ve l') (hlen : H.length ≤ H1.length) (hfr : ∀ b, b < H.length → ¬ At ve b → H1[b]? = H[b]?) (haf : ∀ x ∈ l', ∀ b, At x.1 b → (∃ y ∈ l, At y.1 b) ∨ H.length ≤ b) :
    QSt n H1 qb w ve vl vr l' la re ∧ Evo n H H1 (QFoot qb ve vl vr l) (QFoot qb ve vl vr l') := by
  have hlb : ∀ b, At vl b → b < H.length := fun b hb => (h.la.at_lt hb).2
  have hrb : ∀ b, At vr b → b < H.length := fun b hb => (h.re.at_lt hb).2
  refine ⟨{ h with ents := hE, box := h.box.frame (hfr qb h.box.lt h.qe), la := h.la.frame fun b hb => hfr b (hlb b hb) (h.el b hb), re := h.re.frame fun b hb => hfr b (hrb b hb) (h.er b hb), aq := fun x hx b hb => ?_ },
    ⟨h.bn, hlen, fun b hb => (h.foot_lt hb).1, fun b hb hf => hfr b hb fun ha => hf (.inr (.inl ha)), fun b hb => ?_⟩⟩
  · rcases haf x hx b hb with ⟨y, hy, hyb⟩ | hge
    · exact h.aq y hy b hyb
    · refine ⟨fun e => ?_, fun ha => ?_, fun ha => ?_⟩
      · have := h.box.lt; omega
      · have := hlb b ha; omega
      · have := hrb b ha; omega
  · rcases hb with rfl | hb | hb | hb | ⟨x, hx, hb⟩
    · exact .inl (.inl rfl)
    · exact .inl (.inr (.inl hb))
    · exact .inl (.inr (.inr (.inl hb)))
    · exact .inl (.inr (.inr (.inr (.inl hb))))
    · rcases haf x hx b hb with hy | hge
      · exact .inl (.inr (.inr (.inr (.inr hy))))
      · exact .inr hge

theorem QSt.entsPut (h : QSt n H qb w ve vl vr l la re) (hE : EntsH n H1 ve' l') (hlen : H.length ≤ H1.length) (hfr : ∀ b, b < H.length → ¬ At ve b → H1[b]? = H[b]?) (hat : ∀ b, At ve' b → At ve b ∨ H.length ≤ b) (haf : ∀ x ∈ l', ∀ b, At x.1 b → (∃ y ∈ l, At y.1 b) ∨ H.length ≤ b) {fl : Nat} (hfl : fl ≤ n) :
    ∃ H2, putA fl H1 qb 0 1 ve' = some H2 ∧ QSt n H2 qb w ve' vl vr l' la re ∧ Evo n H H2 (QFoot qb ve vl vr l) (QFoot qb ve' vl vr l') := by
  have hlb : ∀ b, At vl b → b < H.length := fun b hb => (h.la.at_lt hb).2
  have hrb : ∀ b, At vr b → b < H.length := fun b hb => (h.re.at_lt hb).2
  have hq := h.box.lt
  have hb1 := h.box.frame (hfr qb hq h.qe)
  have hve := hE.own.scal
  obtain ⟨H2, a1, a2, a3⟩ := hb1.put (fl := fl) (o := 0) (n := 1) (v := ve') (by rw [hve.1]; rfl) (by simp) (by rw [hve.1, List.all_cons, hve.2]; rfl) (Nat.le_trans hfl h.lo)
  have hqe : ¬ At ve' qb := fun ha => by
    rcases hat qb ha with h1 | h1
    · exact h.qe h1
    · omega
  have haq : ∀ x ∈ l', ∀ b, At x.1 b → b ≠ qb ∧ ¬ At vl b ∧ ¬ At vr b := fun x hx b hb => by
    rcases haf x hx b hb with ⟨y, hy, hyb⟩ | hge
    · exact h.aq y hy b hyb
    · refine ⟨fun e => ?_, fun ha => ?_, fun ha => ?_⟩
      · omega
      · have := hlb b ha; omega
      · have := hrb b ha; omega
  refine ⟨H2, a1, { ents := hE.frame fun b hb => a3.get b ?_, box := ?_, lo := h.lo, la := h.la.frame fun b hb => ?_, re := h.re.frame fun b hb => ?_, qe := hqe, ql := h.ql, qr := h.qr, el := fun b hb ha => ?_, er := fun b hb ha => ?_, lr := h.lr, aq := haq },
    ⟨h.bn, by rw [a3.len]; exact hlen, fun b hb => (h.foot_lt hb).1, fun b hb hf => ?_, fun b hb => ?_⟩⟩
  · rintro rfl
    rcases hb with hb | ⟨x, hx, hb⟩
    · exact hqe hb
    · exact (haq x hx _ hb).1 rfl
  · rw [hve.1] at a2; exact a2
  · rw [a3.get b fun e => h.ql (e ▸ hb), hfr b (hlb b hb) (h.el b hb)]
  · rw [a3.get b fun e => h.qr (e ▸ hb), hfr b (hrb b hb) (h.er b hb)]
  · rcases hat b ha with h1 | h1
    · exact h.el b hb h1
    · have := hlb b hb; omega
  · rcases hat b ha with h1 | h1
    · exact h.er b hb h1
    · have := hrb b hb; omega
  · rw [a3.get b fun e => hf (.inl e), hfr b hb fun ha => hf (.inr (.inl ha))]
  · rcases hb with rfl | hb | hb | hb | ⟨x, hx, hb⟩
    · exact .inl (.inl rfl)
    · rcases hat b hb with h1 | h1
      · exact .inl (.inr (.inl h1))
      · exact .inr h1
    · exact .inl (.inr (.inr (.inl hb)))
    · exact .inl (.inr (.inr (.inr (.inl hb))))
    · rcases haf x hx b hb with hy | hge
      · exact .inl (.inr (.inr (.inr (.inr hy))))
      · exact .inr hge

theorem own_push {v : AV} {ls : List Int} {c : Int} {b : Nat} {fl : Nat} (h : Own n H 1 v ls.length (ints ls)) (hn : n ≤ H.length) (hb : NewB H 1 [i64 c] b H1) (hfl : fl ≤ n) (hl : ls.length ≤ 2 ^ 20) :
    ∃ v' H2, appA fl true 1 8 H1 v (.slice b 0 1 (some 1)) = some (v', H2) ∧ Own n H2 1 v' (ls ++ [c]).length (ints (ls ++ [c])) ∧ H.length ≤ H2.length ∧ (∀ x, x < H.length → ¬ At v x → H2[x]? = H[x]?) ∧ (∀ x, At v' x → At v x ∨ H.length ≤ x) := by
  obtain ⟨v', H2, a1, a2, a3, a4, a5⟩ := (h.keep hb.keep).push (bytes := 8) (fl := fl) (by decide) (hb.sl (n := 1) rfl) (Nat.le_trans hn hb.keep.len) hfl (by rfl) (by omega) (by decide)
  refine ⟨v', H2, a1, ?_, Nat.le_trans hb.keep.len a3, fun x hx hne => ?_, fun x hx => ?_⟩
  · rw [List.length_append]; unfold ints at a2 ⊢; rw [List.map_append]; exact a2
  · rw [a4 x (Nat.lt_of_lt_of_le hx hb.keep.len) hne, hb.keep.get x hx]
  · rcases a5 x hx with h1 | h1
    · exact .inl h1
    · exact .inr (Nat.le_trans hb.keep.len h1)

theorem QSt.landPut (h : QSt n H qb w ve vl vr l la re) {vl' : AV} {la' : List Int} (hL : Own n H1 1 vl' la'.length (ints la')) (hlen : H.length ≤ H1.length) (hfr : ∀ b, b < H.length → ¬ At vl b → H1[b]? = H[b]?) (hat : ∀ b, At vl' b → At vl b ∨ H.length ≤ b) {fl : Nat} (hfl : fl ≤ n) :
    ∃ H2, putA fl H1 qb (0 + 1) 1 vl' = some H2 ∧ QSt n H2 qb w ve vl' vr l la' re ∧ Evo n H H2 (QFoot qb ve vl vr l) (QFoot qb ve vl' vr l) := by
  have heb : ∀ b, (At ve b ∨ ∃ x ∈ l, At x.1 b) → b < H.length := fun b hb => (h.ents.at_lt hb).2
  have hrb : ∀ b, At vr b → b < H.length := fun b hb => (h.re.at_lt hb).2
  have hq := h.box.lt
  have hb1 := h.box.frame (hfr qb hq h.ql)
  have hve := hL.scal
  obtain ⟨H2, a1, a2, a3⟩ := hb1.put (fl := fl) (o := 0 + 1) (n := 1) (v := vl') (by rw [hve.1]; rfl) (by simp) (by rw [hve.1, List.all_cons, hve.2]; rfl) (Nat.le_trans hfl h.lo)
  have hql : ¬ At vl' qb := fun ha => by
    rcases hat qb ha with h1 | h1
    · exact h.ql h1
    · omega
  have hge : ∀ b, At vl' b → (b < H.length → At vl b) := fun b hb hlt => by
    rcases hat b hb with h1 | h1
    · exact h1
    · omega
  refine ⟨H2, a1, { ents := h.ents.frame fun b hb => ?_, box := ?_, lo := h.lo, la := hL.frame fun b hb => a3.get b fun e => hql (e ▸ hb), re := h.re.frame fun b hb => ?_, qe := h.qe, ql := hql, qr := h.qr, el := fun b hb ha => h.el b (hge b hb (heb b (.inl ha))) ha, er := h.er, lr := fun b hb ha => h.lr b (hge b hb (hrb b ha)) ha, aq := fun x hx b hb => ⟨(h.aq x hx b hb).1, fun ha => (h.aq x hx b hb).2.1 (hge b ha (heb b (.inr ⟨x, hx, hb⟩))), (h.aq x hx b hb).2.2⟩ },
    ⟨h.bn, by rw [a3.len]; exact hlen, fun b hb => (h.foot_lt hb).1, fun b hb hf => ?_, fun b hb => ?_⟩⟩
  · rw [a3.get b ?_, hfr b (heb b hb) ?_]
    · rcases hb with hb | ⟨x, hx, hb⟩
      · exact fun ha => h.el b ha hb
      · exact (h.aq x hx b hb).2.1
    · rcases hb with hb | ⟨x, hx, hb⟩
      · exact fun e => h.qe (e ▸ hb)
      · exact (h.aq x hx b hb).1
  · rw [hve.1] at a2; exact a2
  · rw [a3.get b fun e => h.qr (e ▸ hb), hfr b (hrb b hb) fun ha => h.lr b ha hb]
  · rw [a3.get b fun e => hf (.inl e), hfr b hb fun ha => hf (.inr (.inr (.inl ha)))]
  · rcases hb with rfl | hb | hb | hb | hb
    · exact .inl (.inl rfl)
    · exact .inl (.inr (.inl hb))
    · rcases hat b hb with h1 | h1
      · exact .inl (.inr (.inr (.inl h1)))
      · exact .inr h1
    · exact .inl (.inr (.inr (.inr (.inl hb))))
    · exact .inl (.inr (.inr (.inr (.inr hb))))

theorem QSt.rejPut (h : QSt n H qb w ve vl vr l la re) {vr' : AV} {re' : List Int} (hR : Own n H1 1 vr' re'.length (ints re')) (hlen : H.length ≤ H1.length) (hfr : ∀ b, b < H.length → ¬ At vr b → H1[b]? = H[b]?) (hat : ∀ b, At vr' b → At vr b ∨ H.length ≤ b) {fl : Nat} (hfl : fl ≤ n) :
    ∃ H2, putA fl H1 qb (0 + 2) 1 vr' = some H2 ∧ QSt n H2 qb w ve vl vr' l la re' ∧ Evo n H H2 (QFoot qb ve vl vr l) (QFoot qb ve vl vr' l) := by
  have heb : ∀ b, (At ve b ∨ ∃ x ∈ l, At x.1 b) → b < H.length := fun b hb => (h.ents.at_lt hb).2
  have hlb : ∀ b, At vl b → b < H.length := fun b hb => (h.la.at_lt hb).2
  have hq := h.box.lt
  have hb1 := h.box.frame (hfr qb hq h.qr)
  have hve := hR.scal
  obtain ⟨H2, a1, a2, a3⟩ := hb1.put (fl := fl) (o := 0 + 2) (n := 1) (v := vr') (by rw [hve.1]; rfl) (by simp) (by rw [hve.1, List.all_cons, hve.2]; rfl) (Nat.le_trans hfl h.lo)
  have hql : ¬ At vr' qb := fun ha => by
    rcases hat qb ha with h1 | h1
    · exact h.qr h1
    · omega
  have hge : ∀ b, At vr' b → (b < H.length → At vr b) := fun b hb hlt => by
    rcases hat b hb with h1 | h1
    · exact h1
    · omega
  refine ⟨H2, a1, { ents := h.ents.frame fun b hb => ?_, box := ?_, lo := h.lo, re := hR.frame fun b hb => a3.get b fun e => hql (e ▸ hb), la := h.la.frame fun b hb => ?_, qe := h.qe, ql := h.ql, qr := hql, el := h.el, er := fun b hb ha => h.er b (hge b hb (heb b (.inl ha))) ha, lr := fun b hb ha => h.lr b hb (hge b ha (hlb b hb)), aq := fun x hx b hb => ⟨(h.aq x hx b hb).1, (h.aq x hx b hb).2.1, fun ha => (h.aq x hx b hb).2.2 (hge b ha (heb b (.inr ⟨x, hx, hb⟩)))⟩ },
    ⟨h.bn, by rw [a3.len]; exact hlen, fun b hb => (h.foot_lt hb).1, fun b hb hf => ?_, fun b hb => ?_⟩⟩
  · rw [a3.get b ?_, hfr b (heb b hb) ?_]
    · rcases hb with hb | ⟨x, hx, hb⟩
      · exact fun ha => h.er b ha hb
      · exact (h.aq x hx b hb).2.2
    · rcases hb with hb | ⟨x, hx, hb⟩
      · exact fun e => h.qe (e ▸ hb)
      · exact (h.aq x hx b hb).1
  · rw [hve.1] at a2; exact a2
  · rw [a3.get b fun e => h.ql (e ▸ hb), hfr b (hlb b hb) fun ha => h.lr b hb ha]
  · rw [a3.get b fun e => hf (.inl e), hfr b hb fun ha => hf (.inr (.inr (.inr (.inl ha))))]
  · rcases hb with rfl | hb | hb | hb | hb
    · exact .inl (.inl rfl)
    · exact .inl (.inr (.inl hb))
    · exact .inl (.inr (.inr (.inl hb)))
    · rcases hat b hb with h1 | h1
      · exact .inl (.inr (.inr (.inr (.inl h1))))
      · exact .inr h1
    · exact .inl (.inr (.inr (.inr (.inr hb))))

theorem EntsH.put (h : EntsH n H ve l) {i : Nat} (hi : i < l.length) : ∃ b o, ptrA 6 ve (i : Int) = some (b, o) ∧ At ve b ∧
    (∀ o' x, (entC l[i])[o']? = some x → rload H none b (o + o') = some x) ∧
    (∀ fl o' k v (x : AV × Ent), fl ≤ n → v.cells.length = k → o' + k ≤ 6 → v.cells.all AV.scalar = true → splice (entC l[i]) o' v.cells = entC x → Own n H 1 x.1 x.2.af.length (ints x.2.af) → (∀ b, At x.1 b → ¬ At ve b) →
      ∃ H', putA fl H b (o + o') k v = some H' ∧ EntsH n H' ve (l.set i x) ∧ KeepX b H H') := by
  obtain ⟨b, o, h1, h2, h3, h4, h5⟩ := h.own.elemR (entC_lens l) (by simp) (i := i) (by simpa using hi)
  have e0 : (l.map entC)[i]'(by simpa using hi) = entC l[i] := by simp
  rw [e0] at h4 h5
  refine ⟨b, o, h1, h2, h4, fun fl o' k v x hfl hk hok hs hx hown hoff => ?_⟩
  obtain ⟨H', a1, a2, a3⟩ := h5 fl o' k v hfl hk hok hs
  refine ⟨H', a1, ⟨?_, h.nolim, fun y hy => ?_, fun y hy => ?_⟩, a3⟩
  · rw [hx] at a2
    rw [List.length_set, List.map_set]; exact a2
  · rcases List.mem_or_eq_of_mem_set hy with hy | rfl
    · exact (h.af y hy).frame fun c hc => a3.get c fun e => h.off y hy c hc (e ▸ h2)
    · exact hown.frame fun c hc => a3.get c fun e => hoff c hc (e ▸ h2)
  · rcases List.mem_or_eq_of_mem_set hy with hy | rfl
    · exact h.off y hy
    · exact hoff

end

end Go.RM

/-
  Package mergequeue: find, reset, remove, add, step.
-/
namespace Go.RM
set_option linter.unusedSimpArgs false
set_option linter.unusedVariables false
set_option maxRecDepth 4000
open Mq

variable {F : Nat → Option RFunc}

/-! ### Places of entries -/

def TestsE (F : Nat → Option RFunc) (fl : Nat) (H : Heap) (g : Nat) (caps : List AV) (l : List Ent) (p : Ent → Bool) : Prop :=
  ∀ (c : List AV) (a : Ent) (H' : Heap), a ∈ l → Keep H.length H H' → tEnt.rel H' c a → Ret F fl g ([.agg c] ++ caps) H' fun v H'' => v = .bool (p a) ∧ Keep H'.length H' H''

abbrev IndexFuncEC (F : Nat → Option RFunc) (f : Nat) : Prop := ∀ {fl H Q v} {l : List Ent} {g caps p}, Arr tEnt H v l → TestsE F fl H g caps l p → (∀ H', Keep H.length H H' → Q (i64 (fidx p l)) H') → Ret F fl f [v, .func g caps] H Q
theorem indexFuncE_c {f : Nat} (hF : F f = some rf_slices_IndexFunc__api_QueueEntry_api_QueueEntry) : IndexFuncEC F f := fun {fl H Q v l g caps p} hv ht hq => by
  refine v_slices_IndexFunc__api_QueueEntry_api_QueueEntry hF _ _ _ ?_
  refine ⟨_, hv.len, fun m v H' => ∃ i : Nat, v = i ∧ i + m = l.length ∧ Keep H.length H H' ∧ ∀ x ∈ l.take i, p x = false, l.length, ⟨0, rfl, by omega, Keep.refl H, by simp⟩, ?_⟩
  rintro m _ H' ⟨i, rfl, hm, hk, hi⟩
  refine ⟨fun hlt => ?_, fun hge => ?_⟩
  · have hil : i < l.length := by omega
    obtain ⟨c, ⟨w, rfl, hw⟩, hget, _⟩ := (hv.keep hk).get hil
    refine ⟨_, _, _, _, _, _, hget, (ht _ l[i] H' (List.getElem_mem hil) hk ⟨w, rfl, hw⟩).mono ?_⟩
    rintro _ H2 ⟨rfl, hk2⟩
    refine ⟨_, rfl, fun he => ?_, fun hne => ⟨m - 1, by omega, i + 1, wsucc hil hv.small, by omega, hk.call hk2, take_step hil (by simpa using hne) hi⟩⟩
    have := hq H2 (hk.call hk2)
    rw [fidx_hit hil he hi] at this; exact this
  · rw [List.take_of_length_le (by omega)] at hi
    have := hq H' hk
    rw [fidx_none hi] at this; exact this

theorem findx1_c {f : Nat} (hF : F f = some rf_mergequeue_queue_findx1) {fl : Nat} {H : Heap} {b : Nat} {c : Int} {cs : List AV} {a : Ent} (hb : Cell H b (i64 c)) (h : tEnt.rel H cs a) :
    Ret F fl f ([.agg cs] ++ [.ptr b 0]) H fun v H'' => v = .bool (a.ch == c) ∧ Keep H.length H H'' := by
  obtain ⟨w, rfl, hw⟩ := h
  refine v_mergequeue_queue_findx1 hF _ _ _ _ _ _ _ ?_
  intro H7 h7
  exact ⟨b, 0, rfl, c, (hb.keep h7.keep).load, rfl, h7.keep⟩
theorem outcomex1_c {f : Nat} (hF : F f = some rf_mergequeue_Outcomex1) {fl : Nat} {H : Heap} {b : Nat} {c : Int} {cs : List AV} {a : Ent} (hb : Cell H b (i64 c)) (h : tEnt.rel H cs a) :
    Ret F fl f ([.agg cs] ++ [.ptr b 0]) H fun v H'' => v = .bool (a.ch == c) ∧ Keep H.length H H'' := by
  obtain ⟨w, rfl, hw⟩ := h
  refine v_mergequeue_Outcomex1 hF _ _ _ _ _ _ _ ?_
  intro H7 h7
  exact ⟨b, 0, rfl, c, (hb.keep h7.keep).load, rfl, h7.keep⟩

def findE (c : Int) (l : List Ent) : Int := fidx (fun e => e.ch == c) l

abbrev FindC (F : Nat → Option RFunc) (f : Nat) : Prop := ∀ {fl H Q qb ve} {l : List Ent} {c : Int}, rload H none qb 0 = some ve → Arr tEnt H ve l → (∀ H', Keep H.length H H' → Q (i64 (findE c l)) H') → Ret F fl f [.ptr qb 0, i64 c] H Q
theorem find_c {f n1 n2 : Nat} (hF : F f = some (rf_mergequeue_queue_find n1 n2)) (h1 : F n1 = some rf_mergequeue_queue_findx1) (h2 : IndexFuncEC F n2) : FindC F f := fun {fl H Q qb ve l c} hl hv hq => by
  refine v_mergequeue_queue_find hF _ _ _ ?_
  intro b3 H4 h4
  refine ⟨_, rload_keep h4.keep hl, h2 (hv.keep h4.keep) (p := fun e => e.ch == c) (fun cs a H' ha hk hr => findx1_c h1 (h4.cell.keep hk) hr) fun H' hk => ⟨_, rfl, hq H' (h4.keep.call hk)⟩⟩

/-! ### reset -/

def blankL (x : AV × Ent) : AV × Ent := (.empty, Mq.blank x.2)
def resetL (i j : Nat) (l : List (AV × Ent)) : List (AV × Ent) := l.mapIdx fun k x => if i ≤ k ∧ k < j then blankL x else x

theorem resetL_len (i j : Nat) (l : List (AV × Ent)) : (resetL i j l).length = l.length := by simp [resetL]
theorem resetL_get {i j : Nat} {l : List (AV × Ent)} {k : Nat} (h : k < l.length) : (resetL i j l)[k]'(by rw [resetL_len]; exact h) = if i ≤ k ∧ k < j then blankL l[k] else l[k] := by simp [resetL]
theorem resetL_set {i j : Nat} {l : List (AV × Ent)} (hij : i ≤ j) (hj : j < l.length) : (resetL i j l).set j (blankL l[j]) = resetL i (j + 1) l := by
  refine List.ext_getElem (by simp [resetL_len]) fun k h1 h2 => ?_
  rw [resetL_len] at h2
  rw [List.getElem_set, resetL_get h2, resetL_get h2]
  by_cases e : j = k
  · subst e; rw [if_pos rfl, if_pos (by omega)]
  · rw [if_neg e]
    by_cases h : i ≤ k ∧ k < j
    · rw [if_pos h, if_pos (by omega)]
    · rw [if_neg h, if_neg (by omega)]
theorem resetL_zero (i : Nat) (l : List (AV × Ent)) : resetL i i l = l := by
  refine List.ext_getElem (resetL_len _ _ _) fun k h1 h2 => ?_
  rw [resetL_get h2, if_neg (by omega)]
theorem resetL_snd {i : Nat} {l : List (AV × Ent)} : (resetL i l.length l).map (·.2) = resetFrom i (l.map (·.2)) := by
  refine List.ext_getElem (by simp [resetL_len, resetFrom]) fun k h1 h2 => ?_
  have hk : k < l.length := by simpa [resetL_len] using h1
  rw [List.getElem_map, resetL_get hk]
  simp only [resetFrom, List.getElem_mapIdx, List.getElem_map]
  by_cases h : i ≤ k
  · rw [if_pos ⟨h, hk⟩, if_pos h]; rfl
  · rw [if_neg (by omega), if_neg h]
theorem resetL_at {i j : Nat} {l : List (AV × Ent)} {x : AV × Ent} (hx : x ∈ resetL i j l) {b : Nat} (hb : At x.1 b) : ∃ y ∈ l, At y.1 b := by
  obtain ⟨k, hk, rfl⟩ := List.getElem_of_mem hx
  rw [resetL_len] at hk
  rw [resetL_get hk] at hb
  split at hb
  · exact absurd hb at_empty
  · exact ⟨_, List.getElem_mem hk, hb⟩

abbrev ResetC (F : Nat → Option RFunc) (f : Nat) : Prop := ∀ {fl H Q n qb w ve vl vr} {l : List (AV × Ent)} {la re : List Int} {i : Nat}, QSt n H qb w ve vl vr l la re → fl ≤ n → i ≤ l.length →
  (∀ H', QSt n H' qb w ve vl vr (resetL i l.length l) la re → Evo n H H' (QFoot qb ve vl vr l) (QFoot qb ve vl vr (resetL i l.length l)) → Q .undef H') → Ret F fl f [.ptr qb 0, i64 (i : Int)] H Q
theorem reset_c {f : Nat} (hF : F f = some rf_mergequeue_queue_reset) : ResetC F f := fun {fl H Q n qb w ve vl vr l la re i} hst hfl hi hq => by
  refine v_mergequeue_queue_reset hF _ _ _ ?_
  have hsm : l.length ≤ 9223372036854775807 := hst.ents.own.small
  refine ⟨fun m k H' => ∃ j : Nat, k = j ∧ i ≤ j ∧ j + m = l.length ∧ EntsH n H' ve (resetL i j l) ∧ H'.length = H.length ∧ ∀ b, ¬ At ve b → H'[b]? = H[b]?, l.length - i, ⟨i, rfl, Nat.le_refl _, by omega, by rw [resetL_zero]; exact hst.ents, rfl, fun _ _ => rfl⟩, ?_⟩
  rintro m _ H' ⟨j, rfl, hij, hm, hE, hlen, hfr⟩
  have hload : rload H' none qb 0 = some ve := (hst.box.frame (hfr qb hst.qe)).load rfl
  refine ⟨ve, hload, _, hE.own.len, fun hlt => ?_, fun hge => ?_⟩
  · rw [resetL_len] at hlt
    have hj : j < l.length := by omega
    have hj' : j < (resetL i j l).length := by rw [resetL_len]; exact hj
    obtain ⟨b, o, h1, h2, h3, h4⟩ := hE.put hj'
    have e0 : (resetL i j l)[j] = l[j] := by rw [resetL_get hj, if_neg (by omega)]
    refine ⟨ve, hload, b, o, h1, _, h3 0 _ rfl, _, h3 1 _ rfl, ?_⟩
    have hx : entC (blankL l[j]) = [i64 (resetL i j l)[j].2.ch, i64 (resetL i j l)[j].2.pr, .bool false, .bool false, .bool false, .empty] := by rw [e0]; rfl
    obtain ⟨H17, a1, a2, a3⟩ := h4 fl 0 6 (.agg [i64 (resetL i j l)[j].2.ch, i64 (resetL i j l)[j].2.pr, .bool false, .bool false, .bool false, .empty]) (blankL l[j]) hfl rfl (by decide) rfl (by rw [hx]; rfl) Own.nil fun b hb => absurd hb at_empty
    refine ⟨H17, a1, m - 1, by omega, j + 1, wsucc hj hsm, by omega, by omega, ?_, by rw [a3.len, hlen], fun c hc => by rw [a3.get c fun e => hc (e ▸ h2), hfr c hc]⟩
    rw [resetL_set hij hj] at a2
    exact a2
  · rw [resetL_len] at hge
    have hj : j = l.length := by omega
    subst hj
    obtain ⟨g1, g2⟩ := hst.entsIn hE (Nat.le_of_eq hlen.symm) (fun b _ hb => hfr b hb) fun x hx b hb => .inl (resetL_at hx hb)
    exact hq H' g1 g2

/-! ### remove -/

abbrev RemoveC (F : Nat → Option RFunc) (f : Nat) : Prop := ∀ {fl H Q n qb w ve vl vr} {l : List (AV × Ent)} {la re : List Int} {i : Nat}, QSt n H qb w ve vl vr l la re → fl ≤ n → i < l.length → l.length ≤ 2 ^ 20 →
  (∀ ve' l' H', QSt n H' qb w ve' vl vr l' la re → l'.map (·.2) = resetFrom i ((l.map (·.2)).eraseIdx i) → Evo n H H' (QFoot qb ve vl vr l) (QFoot qb ve' vl vr l') → Q .undef H') → Ret F fl f [.ptr qb 0, i64 (i : Int)] H Q
theorem eraseIdx_map {α β : Type} (f : α → β) : ∀ (l : List α) (i : Nat), (l.eraseIdx i).map f = (l.map f).eraseIdx i
  | [], _ => rfl
  | _ :: _, 0 => rfl
  | a :: l, i + 1 => by rw [List.eraseIdx_cons_succ, List.map_cons, List.map_cons, List.eraseIdx_cons_succ, eraseIdx_map f l i]
theorem remove_c {f n1 n2 : Nat} (hF : F f = some (rf_mergequeue_queue_remove n1 n2)) (h1 : DeleteEC F n1) (h2 : ResetC F n2) : RemoveC F f := fun {fl H Q n qb w ve vl vr l la re i} hst hfl hi hl hq => by
  refine v_mergequeue_queue_remove hF _ _ _ ?_
  refine ⟨_, hst.entries, ?_⟩
  rw [wsucc hi (by omega)]
  refine h1 hst.ents hi hfl hl fun v' H5 g1 g2 g3 g4 => ?_
  obtain ⟨H7, a1, a2, a3⟩ := hst.entsPut (fl := fl) g1 (Nat.le_of_eq g2.symm) (fun b _ hb => g3 b hb) (fun b hb => .inl (g4 b hb)) (fun x hx b hb => .inl ⟨x, mem_erase hx, hb⟩) hfl
  refine ⟨H7, a1, h2 a2 hfl (by rw [List.length_eraseIdx, if_pos hi]; omega) fun H8 b1 b2 => ⟨rfl, hq v' _ H8 b1 ?_ (a3.trans b2)⟩⟩
  rw [resetL_snd, eraseIdx_map]

/-! ### add -/

abbrev AddC (F : Nat → Option RFunc) (f : Nat) : Prop := ∀ {fl H Q n qb w ve vl vr} {l : List (AV × Ent)} {la re : List Int} {k c p : Int}, QSt n H qb w ve vl vr l la re → fl ≤ n → l.length ≤ 2 ^ 19 →
  (∀ ve' l' r H', QSt n H' qb w ve' vl vr l' la re → addE ⟨l.map (·.2), la, re⟩ c p = (⟨l'.map (·.2), la, re⟩, r) → Evo n H H' (QFoot qb ve vl vr l) (QFoot qb ve' vl vr l') → Q (i64 r) H') → Ret F fl f [.ptr qb 0, .agg [i64 k, i64 c, i64 p]] H Q

theorem findIdx_here {α : Type} {p : α → Bool} {l : List α} {j : Nat} (hj : j ≤ l.length) (hlt : ∀ x ∈ l.take j, p x = false) (hat : ∀ h : j < l.length, p l[j] = true) : l.findIdx p = j := by
  rcases Nat.lt_or_ge j l.length with h | h
  · rw [List.findIdx_eq h]
    refine ⟨hat h, fun k hk => hlt _ ?_⟩
    rw [List.mem_take_iff_getElem]; exact ⟨k, by omega, rfl⟩
  · have : j = l.length := by omega
    subst this
    rw [List.findIdx_eq_length]
    intro x hx
    exact hlt x (by rw [List.take_length]; exact hx)

theorem add_c {f n1 n2 n3 n4 : Nat} (hF : F f = some (rf_mergequeue_queue_add n1 n2 n3 n4)) (h1 : FindC F n1) (h2 : ContainsIC F n2) (h3 : InsertEC F n3) (h4 : ResetC F n4) : AddC F f := fun {fl H Q n qb w ve vl vr l la re k c p} hst hfl hl hq => by
  refine v_mergequeue_queue_add hF _ _ _ _ _ ?_
  intro H5 d5
  have s5 := hst.keep d5.keep
  refine h1 s5.entries s5.ents.arr fun H7 k7 => ⟨_, rfl, ?_⟩
  have s7 := s5.keep k7
  have k07 := d5.keep.call k7
  have same : ∀ r, addE ⟨l.map (·.2), la, re⟩ c p = (⟨l.map (·.2), la, re⟩, r) → Q (i64 r) H7 := fun r hr => hq ve l r H7 s7 hr (hst.evo k07)
  have hkn : (l.map (·.2)).any (fun e => e.ch == c) = decide (findE c (l.map (·.2)) ≥ 0) := (fidx_nonneg _ _).symm
  refine ⟨fun h => same 7 ?_, fun h => ⟨_, s7.landed, h2 s7.la.ints ⟨_, rfl, fun hc => same 7 ?_, fun hc => ⟨_, s7.rejected, h2 s7.re.ints ⟨_, rfl, fun hr => same 7 ?_, fun hr => ⟨_, s7.entries, _, s7.ents.own.len, fun h10 => same 14 ?_, fun h10 => ?_⟩⟩⟩⟩⟩⟩
  · unfold addE; rw [hkn, decide_eq_true h]; rfl
  · unfold addE; simp only [hc, Bool.or_true, Bool.true_or]; rfl
  · unfold addE; simp only [hr, Bool.or_true, Bool.true_or]; rfl
  all_goals
    have hno : ((l.map (·.2)).any (fun e => e.ch == c) || decide (c ∈ la) || decide (c ∈ re)) = false := by
      rw [hkn, decide_eq_false h]
      simp only [Bool.not_eq_true] at hc hr
      rw [hc, hr]; rfl
  · unfold addE
    simp only [hno, Bool.false_eq_true, if_false, List.length_map]
    rw [if_pos (by omega)]
  have hsm : l.length ≤ 9223372036854775807 := hst.ents.own.small
  have fin : ∀ (j : Nat) (b31 : Nat) (H32 : Heap), posE p (l.map (·.2)) = j → j ≤ l.length → NewB H7 6 [i64 c, i64 p, .bool false, .bool false, .bool false, .empty] b31 H32 →
      Ret F fl n3 [ve, i64 (j : Int), .slice b31 0 1 (some 1)] H32 (fun r33 H34 => ∃ H36 : Heap, putA fl H34 qb 0 1 r33 = some H36 ∧ Ret F fl n4 [.ptr qb 0, i64 (j : Int)] H36 (fun v38 H37 => v38 = .undef ∧ Q (i64 0) H37)) := fun j b31 H32 hpos hj h32 => by
    refine h3 s7.ents h32 s7.bn hj hfl (by omega) fun v' H34 g1 g2 g3 g4 => ?_
    have hl32 := h32.keep.len
    obtain ⟨H36, a1, a2, a3⟩ := s7.entsPut (fl := fl) g1 (by omega) (fun b hb hne => by rw [g3 b (by omega) hne, h32.keep.get b hb]) (fun b hb => by
      rcases g4 b hb with h | h
      · exact .inl h
      · exact .inr (by omega)) (fun x hx b hb => by
      rcases List.mem_append.1 hx with hx | hx
      · exact .inl ⟨x, List.mem_of_mem_take hx, hb⟩
      · rcases List.mem_cons.1 hx with rfl | hx
        · exact absurd hb at_empty
        · exact .inl ⟨x, List.mem_of_mem_drop hx, hb⟩) hfl
    have hlen : (l.take j ++ (AV.empty, mk c p) :: l.drop j).length = l.length + 1 := by rw [List.length_append, List.length_take, List.length_cons, List.length_drop]; omega
    refine ⟨H36, a1, h4 a2 hfl (by omega) fun H37 b1 b2 => ⟨rfl, hq v' _ 0 H37 b1 ?_ ((hst.evo k07).trans (a3.trans b2))⟩⟩
    unfold addE
    simp only [hno, Bool.false_eq_true, if_false, List.length_map]
    rw [if_neg (by omega), hpos, resetL_snd, List.map_append, List.map_cons, List.map_take, List.map_drop]
  refine ⟨fun m v => ∃ j : Nat, v = j ∧ j + m = l.length ∧ ∀ x ∈ (l.map (·.2)).take j, decide (x.pr < p) = false, l.length, ⟨0, rfl, by omega, by simp⟩, ?_⟩
  rintro m _ ⟨j, rfl, hm, hj⟩
  refine ⟨_, s7.entries, _, s7.ents.own.len, fun hlt => ?_, fun hge => ?_⟩
  · have hjl : j < l.length := by omega
    have hjl' : j < (l.map (·.2)).length := by simpa using hjl
    obtain ⟨cs, ⟨wv, rfl, hw⟩, _, hcell⟩ := s7.ents.arr.get hjl'
    refine ⟨_, s7.entries, _, hcell 1 _ rfl, fun hge => ⟨m - 1, by omega, j + 1, wsucc hjl hsm, by omega, take_step hjl' (by simpa using hge) hj⟩, fun hlt2 => ⟨_, s7.entries, fun b31 H32 h32 => fin j b31 H32 ?_ (by omega) h32⟩⟩
    exact findIdx_here (by simp; omega) hj fun h => by simpa using hlt2
  · refine ⟨_, s7.entries, fun b31 H32 h32 => fin j b31 H32 ?_ (by omega) h32⟩
    exact findIdx_here (by simp; omega) hj fun h => by simp at h; omega

/-! ### step -/

abbrev StepC (F : Nat → Option RFunc) (f : Nat) : Prop := ∀ {fl H Q n qb w ve vl vr} {l : List (AV × Ent)} {la re : List Int} {x : Ev}, QSt n H qb w ve vl vr l la re → fl ≤ n → l.length ≤ 2 ^ 19 →
  (∀ ve' l' r H', QSt n H' qb w ve' vl vr l' la re → stepE ⟨l.map (·.2), la, re⟩ x = (⟨l'.map (·.2), la, re⟩, r) → Evo n H H' (QFoot qb ve vl vr l) (QFoot qb ve' vl vr l') → Q (i64 r) H') → Ret F fl f [.ptr qb 0, .agg [i64 x.k, i64 x.c, i64 x.p]] H Q

theorem step_c {f n1 n2 n3 : Nat} (hF : F f = some (rf_mergequeue_queue_step n1 n2 n3)) (h1 : AddC F n1) (h2 : FindC F n2) (h3 : RemoveC F n3) : StepC F f := fun {fl H Q n qb w ve vl vr l la re x} hst hfl hl hq => by
  refine v_mergequeue_queue_step hF _ _ _ _ _ ?_
  intro H5 d5
  have s5 := hst.keep d5.keep
  have same : ∀ r, stepE ⟨l.map (·.2), la, re⟩ x = (⟨l.map (·.2), la, re⟩, r) → Q (i64 r) H5 := fun r hr => hq ve l r H5 s5 hr (hst.evo d5.keep)
  refine ⟨fun h => same 4 (by unfold stepE; rw [if_pos h]), fun g1 => ⟨fun h => same 3 ?_, fun g2 => ⟨fun h => same 5 ?_, fun g3 => ⟨fun h => ?_, fun g4 => ?_⟩⟩⟩⟩
  · unfold stepE; rw [if_neg g1, if_pos (by omega)]
  · unfold stepE; rw [if_neg g1, if_neg (by omega), if_pos h]
  · refine h1 s5 hfl hl fun ve' l' r H7 q1 q2 q3 => ⟨_, rfl, hq ve' l' r H7 q1 ?_ ((hst.evo d5.keep).trans q3)⟩
    unfold stepE; rw [if_neg g1, if_neg (by omega), if_neg g3, if_pos h]; exact q2
  · refine h2 s5.entries s5.ents.arr fun H10 k10 => ⟨_, rfl, ?_⟩
    have s10 := s5.keep k10
    have k010 := d5.keep.call k10
    have hst2 : stepE ⟨l.map (·.2), la, re⟩ x = match (l.map (·.2)).findIdx? (fun e => e.ch == x.c) with
      | none => (⟨l.map (·.2), la, re⟩, 6)
      | some i => if x.k = 2 then (⟨resetFrom i ((l.map (·.2)).eraseIdx i), la, re⟩, 0)
        else match (l.map (·.2))[i]? with
          | some e => if e.te then (⟨(l.map (·.2)).set i (resE e x.k), la, re⟩, 0) else (⟨l.map (·.2), la, re⟩, 11)
          | none => (⟨l.map (·.2), la, re⟩, 6) := by
      unfold stepE; rw [if_neg g1, if_neg (by omega), if_neg g3, if_neg g4]; try rfl
    unfold findE fidx
    cases hfi : (l.map (·.2)).findIdx? (fun e => e.ch == x.c) with
    | none =>
      rw [hfi] at hst2
      refine ⟨fun _ => hq ve l 6 H10 s10 hst2 (hst.evo k010), fun h => absurd (by decide : (-1 : Int) < 0) h⟩
    | some i =>
      rw [hfi] at hst2
      dsimp only at hst2
      obtain ⟨hi, _⟩ := List.findIdx?_eq_some_iff_findIdx_eq.1 hfi
      have hil : i < l.length := by simpa using hi
      refine ⟨fun h => absurd h (by simp), fun _ => ⟨fun hk2 => ?_, fun hk2 => ?_⟩⟩
      · rw [if_pos hk2] at hst2
        exact h3 s10 hfl hil (by omega) fun ve' l' H12 q1 q2 q3 => ⟨rfl, hq ve' l' 0 H12 q1 (by rw [hst2, q2]) ((hst.evo k010).trans q3)⟩
      · rw [if_neg hk2, List.getElem?_eq_getElem hi] at hst2
        obtain ⟨cs, ⟨wv, rfl, hw⟩, _, hcell⟩ := s10.ents.arr.get hi
        refine ⟨_, s10.entries, _, hcell 2 _ rfl, fun hte => ?_, fun hte => ?_⟩
        · dsimp only at hst2
          rw [if_neg hte] at hst2
          exact hq ve l 11 H10 s10 hst2 (hst.evo k010)
        · have hte' : (l.map fun x : AV × Ent => x.2)[i].te = true := by
            have : ¬¬ (l.map fun x : AV × Ent => x.2)[i].te = true := hte
            simpa using this
          dsimp only at hst2
          rw [if_pos hte'] at hst2
          have e0 : (l.map fun x : AV × Ent => x.2)[i] = l[i].2 := by simp
          rw [e0] at hst2
          obtain ⟨b, o, p1, p2, p3, p4⟩ := s10.ents.put hil
          have hm := List.getElem_mem hil
          obtain ⟨H20, a1, a2, a3⟩ := p4 fl 2 1 (.bool false) (l[i].1, { l[i].2 with te := false }) hfl rfl (by decide) rfl rfl (s10.ents.af l[i] hm) (s10.ents.off l[i] hm)
          have hil2 : i < (l.set i (l[i].1, { l[i].2 with te := false })).length := by simpa using hil
          obtain ⟨b', o', p1', p2', p3', p4'⟩ := a2.put hil2
          rw [p1] at p1'; cases p1'
          have e1 : (l.set i (l[i].1, { l[i].2 with te := false }))[i] = (l[i].1, { l[i].2 with te := false }) := by simp
          rw [e1] at p4'
          have fr1 : Own n H20 1 l[i].1 l[i].2.af.length (ints l[i].2.af) := a2.af (l[i].1, { l[i].2 with te := false }) (List.mem_of_getElem (h := hil2) e1)
          obtain ⟨H21, b1, b2, b3⟩ := p4' fl 3 1 (.bool (x.k == 3)) (l[i].1, { l[i].2 with te := false, pa := x.k == 3 }) hfl rfl (by decide) rfl rfl fr1 (s10.ents.off l[i] hm)
          rw [List.set_set] at b2
          have hil3 : i < (l.set i (l[i].1, { l[i].2 with te := false, pa := x.k == 3 })).length := by simpa using hil
          obtain ⟨b'', o'', p1'', p2'', p3'', p4''⟩ := b2.put hil3
          rw [p1] at p1''; cases p1''
          have e2 : (l.set i (l[i].1, { l[i].2 with te := false, pa := x.k == 3 }))[i] = (l[i].1, { l[i].2 with te := false, pa := x.k == 3 }) := by simp
          rw [e2] at p4''
          have fr2 : Own n H21 1 l[i].1 l[i].2.af.length (ints l[i].2.af) := b2.af (l[i].1, { l[i].2 with te := false, pa := x.k == 3 }) (List.mem_of_getElem (h := hil3) e2)
          obtain ⟨H22, c1, c2, c3⟩ := p4'' fl 4 1 (.bool (x.k == 4)) (l[i].1, resE l[i].2 x.k) hfl rfl (by decide) rfl rfl fr2 (s10.ents.off l[i] hm)
          rw [List.set_set] at c2
          refine ⟨_, s10.entries, b, o, p1, H20, a1, H21, b1, H22, c1, ?_⟩
          obtain ⟨g1, g2⟩ := s10.entsIn c2 (by rw [c3.len, b3.len, a3.len]; exact Nat.le_refl _) (fun y _ hy => by
            have hne : y ≠ b := fun e => hy (e ▸ p2)
            rw [c3.get y hne, b3.get y hne, a3.get y hne]) fun y hy c hc => by
            rcases List.mem_or_eq_of_mem_set hy with hy | rfl
            · exact .inl ⟨y, hy, hc⟩
            · exact .inl ⟨_, hm, hc⟩
          refine hq ve _ 0 H22 g1 ?_ ((hst.evo k010).trans g2)
          rw [hst2, List.map_set]

end Go.RM

