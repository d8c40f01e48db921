import Derived.Test.YteplndpnfdmgkaaRmOpt3
/-
  Functions of the program as the abstract machine runs them, and what must be shown of a run: printed by RmPrint.
-/
namespace Go.RM
set_option linter.unusedVariables false
set_option maxRecDepth 4000
def rf_digest_mul (nmathbits_Mul64 nmathbits_Div64 : Nat) : RFunc := ⟨2, 6, [.var 2],
 ((.seq (.ops [⟨.move (.k (.int .u64 0)), none, (some 2), true⟩])
 ((.seq (.ops [⟨.move (.var 0), none, none, true⟩, ⟨.move (.var 1), none, none, true⟩, ⟨.callS nmathbits_Mul64 [(.loc 0), (.loc 1)], none, none, true⟩, ⟨.move (.loc 2), none, none, true⟩, ⟨.extract (.loc 3) 0, none, none, true⟩, ⟨.extract (.loc 3) 1, none, none, true⟩, ⟨.move (.loc 4), none, (some 3), true⟩, ⟨.move (.loc 5), none, (some 4), true⟩])
 ((.seq (.ops [⟨.move (.var 3), none, none, true⟩, ⟨.bin .rem .no (.loc 0) (.k (.int .u64 2305843009213693951)), none, none, true⟩, ⟨.move (.var 4), none, none, true⟩, ⟨.callS nmathbits_Div64 [(.loc 1), (.loc 2), (.k (.int .u64 2305843009213693951))], none, none, true⟩, ⟨.move (.loc 3), none, none, true⟩, ⟨.extract (.loc 4) 0, none, none, true⟩, ⟨.extract (.loc 4) 1, none, none, true⟩, ⟨.move (.loc 5), none, none, true⟩, ⟨.move (.loc 6), none, (some 5), true⟩])
 ((.seq (.ops [⟨.move (.var 5), none, none, true⟩, ⟨.move (.loc 0), none, (some 2), true⟩])
 (.ret))))))))), none⟩
theorem v_digest_mul {F : Nat → Option RFunc} {me nmathbits_Mul64 nmathbits_Div64 : Nat} (hF : F me = some (rf_digest_mul nmathbits_Mul64 nmathbits_Div64)) {fl : Nat} {H : Heap} {Q : AV → Heap → Prop} (a0 : Int) (b1 : Int)
  (h : Ret F fl nmathbits_Mul64 [(.int .u64 a0), (.int .u64 b1)] H (fun v5 H4 => ∃ (r2 : Int) (r3 : Int), v5 = (.tuple [(.int .u64 r2), (.int .u64 r3)]) ∧ Ret F fl nmathbits_Div64 [(.int .u64 (Int.tmod r2 2305843009213693951)), (.int .u64 r3), (.int .u64 2305843009213693951)] H4 (fun v9 H8 => ∃ (r6 : Int) (r7 : Int), v9 = (.tuple [(.int .u64 r6), (.int .u64 r7)]) ∧ Q (.int .u64 r7) H8))) : Ret F fl me [(.int .u64 a0), (.int .u64 b1)] H Q := by
  refine ret_intro hF rfl ?_
  refine w_seq ?_
  refine w_run [0] ?_
  refine t_done [(.int .u64 a0), (.int .u64 b1), (.int .u64 0), .undef, .undef, .undef] H (by kernel_rfl) ?_
  refine then_norm ?_
  refine w_seq ?_
  refine w_run [0, 0, 1, 0, 0, 0, 0, 0] ?_
  refine t_call true nmathbits_Mul64 [(.int .u64 a0), (.int .u64 b1)] H (by kernel_rfl) h ?_
  clear h
  rintro _ H4 ⟨r2, r3, rfl, h⟩
  refine t_done [(.int .u64 a0), (.int .u64 b1), (.int .u64 0), (.int .u64 r2), (.int .u64 r3), .undef] H4 (by kernel_rfl) ?_
  refine then_norm ?_
  refine w_seq ?_
  refine w_run [0, 1, 0, 1, 0, 0, 0, 0, 0] ?_
  refine t_rem true .no .u64 r2 2305843009213693951 H4 (by kernel_rfl) (by decide) ?_
  refine t_call true nmathbits_Div64 [(.int .u64 (Int.tmod r2 2305843009213693951)), (.int .u64 r3), (.int .u64 2305843009213693951)] H4 (by kernel_rfl) h ?_
  clear h
  rintro _ H8 ⟨r6, r7, rfl, h⟩
  refine t_done [(.int .u64 a0), (.int .u64 b1), (.int .u64 0), (.int .u64 r2), (.int .u64 r3), (.int .u64 r7)] H8 (by kernel_rfl) ?_
  refine then_norm ?_
  refine w_seq ?_
  refine w_run [0, 0] ?_
  refine t_done [(.int .u64 a0), (.int .u64 b1), (.int .u64 r7), (.int .u64 r2), (.int .u64 r3), (.int .u64 r7)] H8 (by kernel_rfl) ?_
  refine then_norm ?_
  refine w_ret ?_
  exact body_ret (vs := [(.int .u64 r7)]) _ (by kernel_rfl) rfl h

def rf_mathbits_Len (nmathbits_Len32 nmathbits_Len64 : Nat) : RFunc := ⟨1, 2, [.var 1],
 ((.seq (.ops [⟨.move (.k (.int .i64 0)), none, (some 1), true⟩])
 ((.seq (.cond (.k (.bool false)) ((.seq (.ops [⟨.move (.var 0), none, none, true⟩, ⟨.convInt .u32 (.loc 0), none, none, true⟩, ⟨.callS nmathbits_Len32 [(.loc 1)], none, none, true⟩, ⟨.move (.loc 2), none, (some 1), true⟩])
 (.ret))) (.skip))
 ((.seq (.ops [⟨.move (.var 0), none, none, true⟩, ⟨.callS nmathbits_Len64 [(.loc 0)], none, none, true⟩, ⟨.move (.loc 1), none, (some 1), true⟩])
 (.ret))))))), none⟩
theorem v_mathbits_Len {F : Nat → Option RFunc} {me nmathbits_Len32 nmathbits_Len64 : Nat} (hF : F me = some (rf_mathbits_Len nmathbits_Len32 nmathbits_Len64)) {fl : Nat} {H : Heap} {Q : AV → Heap → Prop} (x0 : Int)
  (h : Ret F fl nmathbits_Len64 [(.int .u64 x0)] H (fun v3 H2 => ∃ (r1 : Int), v3 = (.int .i64 r1) ∧ Q (.int .i64 r1) H2)) : Ret F fl me [(.int .u64 x0)] H Q := by
  refine ret_intro hF rfl ?_
  refine w_seq ?_
  refine w_run [0] ?_
  refine t_done [(.int .u64 x0), (.int .i64 0)] H (by kernel_rfl) ?_
  refine then_norm ?_
  refine w_seq ?_
  refine w_cond (t := false) rfl (fun hc => by cases hc) (fun _ => ?_)
  refine w_skip ?_
  refine then_norm ?_
  refine w_seq ?_
  refine w_run [0, 1, 0] ?_
  refine t_call true nmathbits_Len64 [(.int .u64 x0)] H (by kernel_rfl) h ?_
  clear h
  rintro _ H2 ⟨r1, rfl, h⟩
  refine t_done [(.int .u64 x0), (.int .i64 r1)] H2 (by kernel_rfl) ?_
  refine then_norm ?_
  refine w_ret ?_
  exact body_ret (vs := [(.int .i64 r1)]) _ (by kernel_rfl) rfl h

def rf_mathbits_Mul64 : RFunc := ⟨2, 12, [.var 2, .var 3],
 ((.seq (.ops [⟨.move (.k (.int .u64 0)), none, (some 2), true⟩, ⟨.move (.k (.int .u64 0)), none, (some 3), true⟩])
 ((.seq (.ops [⟨.move (.var 0), none, none, true⟩, ⟨.bin .and .no (.loc 0) (.k (.int .u64 4294967295)), none, none, true⟩, ⟨.move (.loc 1), none, (some 4), true⟩])
 ((.seq (.ops [⟨.move (.var 0), none, none, true⟩, ⟨.bin .shr .no (.loc 0) (.k (.int .u64 32)), none, none, true⟩, ⟨.move (.loc 1), none, (some 6), true⟩])
 ((.seq (.ops [⟨.move (.var 1), none, none, true⟩, ⟨.bin .and .no (.loc 0) (.k (.int .u64 4294967295)), none, none, true⟩, ⟨.move (.loc 1), none, (some 5), true⟩])
 ((.seq (.ops [⟨.move (.var 1), none, none, true⟩, ⟨.bin .shr .no (.loc 0) (.k (.int .u64 32)), none, none, true⟩, ⟨.move (.loc 1), none, (some 10), true⟩])
 ((.seq (.ops [⟨.move (.var 4), none, none, true⟩, ⟨.move (.var 5), none, none, true⟩, ⟨.bin .mul .no (.loc 0) (.loc 1), none, none, true⟩, ⟨.move (.loc 2), none, (some 7), true⟩])
 ((.seq (.ops [⟨.move (.var 6), none, none, true⟩, ⟨.move (.var 5), none, none, true⟩, ⟨.bin .mul .no (.loc 0) (.loc 1), none, none, true⟩, ⟨.move (.var 7), none, none, true⟩, ⟨.bin .shr .no (.loc 3) (.k (.int .u64 32)), none, none, true⟩, ⟨.bin .add .no (.loc 2) (.loc 4), none, none, true⟩, ⟨.move (.loc 5), none, (some 8), true⟩])
 ((.seq (.ops [⟨.move (.var 8), none, none, true⟩, ⟨.bin .and .no (.loc 0) (.k (.int .u64 4294967295)), none, none, true⟩, ⟨.move (.loc 1), none, (some 9), true⟩])
 ((.seq (.ops [⟨.move (.var 8), none, none, true⟩, ⟨.bin .shr .no (.loc 0) (.k (.int .u64 32)), none, none, true⟩, ⟨.move (.loc 1), none, (some 11), true⟩])
 ((.seq (.ops [⟨.move (.var 9), none, none, true⟩, ⟨.move (.var 4), none, none, true⟩, ⟨.move (.var 10), none, none, true⟩, ⟨.bin .mul .no (.loc 1) (.loc 2), none, none, true⟩, ⟨.bin .add .no (.loc 0) (.loc 3), none, none, true⟩, ⟨.move (.loc 4), none, (some 9), true⟩])
 ((.seq (.ops [⟨.move (.var 6), none, none, true⟩, ⟨.move (.var 10), none, none, true⟩, ⟨.bin .mul .no (.loc 0) (.loc 1), none, none, true⟩, ⟨.move (.var 11), none, none, true⟩, ⟨.bin .add .no (.loc 2) (.loc 3), none, none, true⟩, ⟨.move (.var 9), none, none, true⟩, ⟨.bin .shr .no (.loc 5) (.k (.int .u64 32)), none, none, true⟩, ⟨.bin .add .no (.loc 4) (.loc 6), none, none, true⟩, ⟨.move (.loc 7), none, (some 2), true⟩])
 ((.seq (.ops [⟨.move (.var 0), none, none, true⟩, ⟨.move (.var 1), none, none, true⟩, ⟨.bin .mul .no (.loc 0) (.loc 1), none, none, true⟩, ⟨.move (.loc 2), none, (some 3), true⟩])
 (.ret))))))))))))))))))))))))), none⟩
theorem v_mathbits_Mul64 {F : Nat → Option RFunc} {me : Nat} (hF : F me = some (rf_mathbits_Mul64 )) {fl : Nat} {H : Heap} {Q : AV → Heap → Prop} (x0 : Int) (y1 : Int)
  (h : ∀ x2 : Int, x2 = (IntKind.wrap .u64 (((BitVec.ofInt (IntKind.bits .u64) x0 &&& BitVec.ofInt (IntKind.bits .u64) 4294967295).toNat : Int))) → ∀ x3 : Int, x3 = (Int.fdiv x0 (2 ^ (Min.min (Int.toNat 32) (IntKind.bits .u64)))) → ∀ x4 : Int, x4 = (IntKind.wrap .u64 (((BitVec.ofInt (IntKind.bits .u64) y1 &&& BitVec.ofInt (IntKind.bits .u64) 4294967295).toNat : Int))) → ∀ x5 : Int, x5 = (Int.fdiv y1 (2 ^ (Min.min (Int.toNat 32) (IntKind.bits .u64)))) → ∀ x6 : Int, x6 = (IntKind.wrap .u64 ((IntKind.wrap .u64 (x3 * x4)) + (Int.fdiv (IntKind.wrap .u64 (x2 * x4)) (2 ^ (Min.min (Int.toNat 32) (IntKind.bits .u64)))))) → ∀ x7 : Int, x7 = (IntKind.wrap .u64 (((BitVec.ofInt (IntKind.bits .u64) x6 &&& BitVec.ofInt (IntKind.bits .u64) 4294967295).toNat : Int))) → ∀ x8 : Int, x8 = (Int.fdiv x6 (2 ^ (Min.min (Int.toNat 32) (IntKind.bits .u64)))) → ∀ x9 : Int, x9 = (IntKind.wrap .u64 (x7 + (IntKind.wrap .u64 (x2 * x5)))) → ∀ x10 : Int, x10 = (IntKind.wrap .u64 ((IntKind.wrap .u64 ((IntKind.wrap .u64 (x3 * x5)) + x8)) + (Int.fdiv x9 (2 ^ (Min.min (Int.toNat 32) (IntKind.bits .u64)))))) → Q (.tuple [(.int .u64 x10), (.int .u64 (IntKind.wrap .u64 (x0 * y1)))]) H) : Ret F fl me [(.int .u64 x0), (.int .u64 y1)] H Q := by
  refine ret_intro hF rfl ?_
  refine w_seq ?_
  refine w_run [0, 0] ?_
  refine t_done [(.int .u64 x0), (.int .u64 y1), (.int .u64 0), (.int .u64 0), .undef, .undef, .undef, .undef, .undef, .undef, .undef, .undef] H (by kernel_rfl) ?_
  refine then_norm ?_
  refine w_seq ?_
  refine w_run [0, 0, 0] ?_
  refine t_done [(.int .u64 x0), (.int .u64 y1), (.int .u64 0), (.int .u64 0), (.int .u64 (IntKind.wrap .u64 (((BitVec.ofInt (IntKind.bits .u64) x0 &&& BitVec.ofInt (IntKind.bits .u64) 4294967295).toNat : Int)))), .undef, .undef, .undef, .undef, .undef, .undef, .undef] H (by kernel_rfl) ?_
  generalize hx2 : (IntKind.wrap .u64 (((BitVec.ofInt (IntKind.bits .u64) x0 &&& BitVec.ofInt (IntKind.bits .u64) 4294967295).toNat : Int))) = x2 at h ⊢
  replace h := h x2 rfl
  refine then_norm ?_
  refine w_seq ?_
  refine w_run [0, 1, 0] ?_
  refine t_shr true .no .u64 .u64 x0 32 H (by kernel_rfl) (by decide) ?_
  refine t_done [(.int .u64 x0), (.int .u64 y1), (.int .u64 0), (.int .u64 0), (.int .u64 x2), .undef, (.int .u64 (Int.fdiv x0 (2 ^ (Min.min (Int.toNat 32) (IntKind.bits .u64))))), .undef, .undef, .undef, .undef, .undef] H (by kernel_rfl) ?_
  generalize hx3 : (Int.fdiv x0 (2 ^ (Min.min (Int.toNat 32) (IntKind.bits .u64)))) = x3 at h ⊢
  replace h := h x3 rfl
  refine then_norm ?_
  refine w_seq ?_
  refine w_run [0, 0, 0] ?_
  refine t_done [(.int .u64 x0), (.int .u64 y1), (.int .u64 0), (.int .u64 0), (.int .u64 x2), (.int .u64 (IntKind.wrap .u64 (((BitVec.ofInt (IntKind.bits .u64) y1 &&& BitVec.ofInt (IntKind.bits .u64) 4294967295).toNat : Int)))), (.int .u64 x3), .undef, .undef, .undef, .undef, .undef] H (by kernel_rfl) ?_
  generalize hx4 : (IntKind.wrap .u64 (((BitVec.ofInt (IntKind.bits .u64) y1 &&& BitVec.ofInt (IntKind.bits .u64) 4294967295).toNat : Int))) = x4 at h ⊢
  replace h := h x4 rfl
  refine then_norm ?_
  refine w_seq ?_
  refine w_run [0, 1, 0] ?_
  refine t_shr true .no .u64 .u64 y1 32 H (by kernel_rfl) (by decide) ?_
  refine t_done [(.int .u64 x0), (.int .u64 y1), (.int .u64 0), (.int .u64 0), (.int .u64 x2), (.int .u64 x4), (.int .u64 x3), .undef, .undef, .undef, (.int .u64 (Int.fdiv y1 (2 ^ (Min.min (Int.toNat 32) (IntKind.bits .u64))))), .undef] H (by kernel_rfl) ?_
  generalize hx5 : (Int.fdiv y1 (2 ^ (Min.min (Int.toNat 32) (IntKind.bits .u64)))) = x5 at h ⊢
  replace h := h x5 rfl
  refine then_norm ?_
  refine w_seq ?_
  refine w_run [0, 0, 0, 0] ?_
  refine t_done [(.int .u64 x0), (.int .u64 y1), (.int .u64 0), (.int .u64 0), (.int .u64 x2), (.int .u64 x4), (.int .u64 x3), (.int .u64 (IntKind.wrap .u64 (x2 * x4))), .undef, .undef, (.int .u64 x5), .undef] H (by kernel_rfl) ?_
  refine then_norm ?_
  refine w_seq ?_
  refine w_run [0, 0, 0, 0, 1, 0, 0] ?_
  refine t_shr true .no .u64 .u64 (IntKind.wrap .u64 (x2 * x4)) 32 H (by kernel_rfl) (by decide) ?_
  refine t_done [(.int .u64 x0), (.int .u64 y1), (.int .u64 0), (.int .u64 0), (.int .u64 x2), (.int .u64 x4), (.int .u64 x3), (.int .u64 (IntKind.wrap .u64 (x2 * x4))), (.int .u64 (IntKind.wrap .u64 ((IntKind.wrap .u64 (x3 * x4)) + (Int.fdiv (IntKind.wrap .u64 (x2 * x4)) (2 ^ (Min.min (Int.toNat 32) (IntKind.bits .u64))))))), .undef, (.int .u64 x5), .undef] H (by kernel_rfl) ?_
  generalize hx6 : (IntKind.wrap .u64 ((IntKind.wrap .u64 (x3 * x4)) + (Int.fdiv (IntKind.wrap .u64 (x2 * x4)) (2 ^ (Min.min (Int.toNat 32) (IntKind.bits .u64)))))) = x6 at h ⊢
  replace h := h x6 rfl
  refine then_norm ?_
  refine w_seq ?_
  refine w_run [0, 0, 0] ?_
  refine t_done [(.int .u64 x0), (.int .u64 y1), (.int .u64 0), (.int .u64 0), (.int .u64 x2), (.int .u64 x4), (.int .u64 x3), (.int .u64 (IntKind.wrap .u64 (x2 * x4))), (.int .u64 x6), (.int .u64 (IntKind.wrap .u64 (((BitVec.ofInt (IntKind.bits .u64) x6 &&& BitVec.ofInt (IntKind.bits .u64) 4294967295).toNat : Int)))), (.int .u64 x5), .undef] H (by kernel_rfl) ?_
  generalize hx7 : (IntKind.wrap .u64 (((BitVec.ofInt (IntKind.bits .u64) x6 &&& BitVec.ofInt (IntKind.bits .u64) 4294967295).toNat : Int))) = x7 at h ⊢
  replace h := h x7 rfl
  refine then_norm ?_
  refine w_seq ?_
  refine w_run [0, 1, 0] ?_
  refine t_shr true .no .u64 .u64 x6 32 H (by kernel_rfl) (by decide) ?_
  refine t_done [(.int .u64 x0), (.int .u64 y1), (.int .u64 0), (.int .u64 0), (.int .u64 x2), (.int .u64 x4), (.int .u64 x3), (.int .u64 (IntKind.wrap .u64 (x2 * x4))), (.int .u64 x6), (.int .u64 x7), (.int .u64 x5), (.int .u64 (Int.fdiv x6 (2 ^ (Min.min (Int.toNat 32) (IntKind.bits .u64)))))] H (by kernel_rfl) ?_
  generalize hx8 : (Int.fdiv x6 (2 ^ (Min.min (Int.toNat 32) (IntKind.bits .u64)))) = x8 at h ⊢
  replace h := h x8 rfl
  refine then_norm ?_
  refine w_seq ?_
  refine w_run [0, 0, 0, 0, 0, 0] ?_
  refine t_done [(.int .u64 x0), (.int .u64 y1), (.int .u64 0), (.int .u64 0), (.int .u64 x2), (.int .u64 x4), (.int .u64 x3), (.int .u64 (IntKind.wrap .u64 (x2 * x4))), (.int .u64 x6), (.int .u64 (IntKind.wrap .u64 (x7 + (IntKind.wrap .u64 (x2 * x5))))), (.int .u64 x5), (.int .u64 x8)] H (by kernel_rfl) ?_
  generalize hx9 : (IntKind.wrap .u64 (x7 + (IntKind.wrap .u64 (x2 * x5)))) = x9 at h ⊢
  replace h := h x9 rfl
  refine then_norm ?_
  refine w_seq ?_
  refine w_run [0, 0, 0, 0, 0, 0, 1, 0, 0] ?_
  refine t_shr true .no .u64 .u64 x9 32 H (by kernel_rfl) (by decide) ?_
  refine t_done [(.int .u64 x0), (.int .u64 y1), (.int .u64 (IntKind.wrap .u64 ((IntKind.wrap .u64 ((IntKind.wrap .u64 (x3 * x5)) + x8)) + (Int.fdiv x9 (2 ^ (Min.min (Int.toNat 32) (IntKind.bits .u64))))))), (.int .u64 0), (.int .u64 x2), (.int .u64 x4), (.int .u64 x3), (.int .u64 (IntKind.wrap .u64 (x2 * x4))), (.int .u64 x6), (.int .u64 x9), (.int .u64 x5), (.int .u64 x8)] H (by kernel_rfl) ?_
  generalize hx10 : (IntKind.wrap .u64 ((IntKind.wrap .u64 ((IntKind.wrap .u64 (x3 * x5)) + x8)) + (Int.fdiv x9 (2 ^ (Min.min (Int.toNat 32) (IntKind.bits .u64)))))) = x10 at h ⊢
  replace h := h x10 rfl
  refine then_norm ?_
  refine w_seq ?_
  refine w_run [0, 0, 0, 0] ?_
  refine t_done [(.int .u64 x0), (.int .u64 y1), (.int .u64 x10), (.int .u64 (IntKind.wrap .u64 (x0 * y1))), (.int .u64 x2), (.int .u64 x4), (.int .u64 x3), (.int .u64 (IntKind.wrap .u64 (x2 * x4))), (.int .u64 x6), (.int .u64 x9), (.int .u64 x5), (.int .u64 x8)] H (by kernel_rfl) ?_
  refine then_norm ?_
  refine w_ret ?_
  exact body_ret (vs := [(.int .u64 x10), (.int .u64 (IntKind.wrap .u64 (x0 * y1)))]) _ (by kernel_rfl) rfl h

def rf_mathbits_Div64 (nmathbits_LeadingZeros64 : Nat) : RFunc := ⟨3, 23, [.var 3, .var 4],
 ((.seq (.ops [⟨.move (.k (.int .u64 0)), none, (some 3), true⟩, ⟨.move (.k (.int .u64 0)), none, (some 4), true⟩])
 ((.seq ((.seq (.ops [⟨.move (.var 2), none, none, true⟩, ⟨.bin .eql .no (.loc 0) (.k (.int .u64 0)), none, (some 5), true⟩])
 (.cond (.var 5) (.ops [⟨.fail, none, none, false⟩, ⟨.fail, none, none, false⟩]) (.skip))))
 ((.seq ((.seq (.ops [⟨.move (.var 2), none, none, true⟩, ⟨.move (.var 0), none, none, true⟩, ⟨.bin .leq .no (.loc 0) (.loc 1), none, (some 6), true⟩])
 (.cond (.var 6) (.ops [⟨.fail, none, none, false⟩, ⟨.fail, none, none, false⟩]) (.skip))))
 ((.seq ((.seq (.ops [⟨.move (.var 0), none, none, true⟩, ⟨.bin .eql .no (.loc 0) (.k (.int .u64 0)), none, (some 7), true⟩])
 (.cond (.var 7) ((.seq (.ops [⟨.move (.var 1), none, none, true⟩, ⟨.move (.var 2), none, none, true⟩, ⟨.bin .quo .no (.loc 0) (.loc 1), none, none, true⟩, ⟨.move (.var 1), none, none, true⟩, ⟨.move (.var 2), none, none, true⟩, ⟨.bin .rem .no (.loc 3) (.loc 4), none, none, true⟩, ⟨.move (.loc 2), none, (some 3), true⟩, ⟨.move (.loc 5), none, (some 4), true⟩])
 (.ret))) (.skip))))
 ((.seq (.ops [⟨.move (.var 2), none, none, true⟩, ⟨.callS nmathbits_LeadingZeros64 [(.loc 0)], none, none, true⟩, ⟨.convInt .u64 (.loc 1), none, none, true⟩, ⟨.move (.loc 2), none, (some 8), true⟩])
 ((.seq (.ops [⟨.move (.var 2), none, none, true⟩, ⟨.move (.var 8), none, none, true⟩, ⟨.bin .shl .no (.loc 0) (.loc 1), none, none, true⟩, ⟨.move (.loc 2), none, (some 2), true⟩])
 ((.seq (.ops [⟨.move (.var 2), none, none, true⟩, ⟨.bin .shr .no (.loc 0) (.k (.int .u64 32)), none, none, true⟩, ⟨.move (.loc 1), none, (some 11), true⟩])
 ((.seq (.ops [⟨.move (.var 2), none, none, true⟩, ⟨.bin .and .no (.loc 0) (.k (.int .u64 4294967295)), none, none, true⟩, ⟨.move (.loc 1), none, (some 13), true⟩])
 ((.seq (.ops [⟨.move (.var 0), none, none, true⟩, ⟨.move (.var 8), none, none, true⟩, ⟨.bin .shl .no (.loc 0) (.loc 1), none, none, true⟩, ⟨.move (.var 1), none, none, true⟩, ⟨.move (.var 8), none, none, true⟩, ⟨.bin .sub .no (.k (.int .u64 64)) (.loc 4), none, none, true⟩, ⟨.bin .shr .no (.loc 3) (.loc 5), none, none, true⟩, ⟨.bin .or .no (.loc 2) (.loc 6), none, none, true⟩, ⟨.move (.loc 7), none, (some 10), true⟩])
 ((.seq (.ops [⟨.move (.var 1), none, none, true⟩, ⟨.move (.var 8), none, none, true⟩, ⟨.bin .shl .no (.loc 0) (.loc 1), none, none, true⟩, ⟨.move (.loc 2), none, (some 9), true⟩])
 ((.seq (.ops [⟨.move (.var 9), none, none, true⟩, ⟨.bin .shr .no (.loc 0) (.k (.int .u64 32)), none, none, true⟩, ⟨.move (.loc 1), none, (some 15), true⟩])
 ((.seq (.ops [⟨.move (.var 9), none, none, true⟩, ⟨.bin .and .no (.loc 0) (.k (.int .u64 4294967295)), none, none, true⟩, ⟨.move (.loc 1), none, (some 20), true⟩])
 ((.seq (.ops [⟨.move (.var 10), none, none, true⟩, ⟨.move (.var 11), none, none, true⟩, ⟨.bin .quo .no (.loc 0) (.loc 1), none, none, true⟩, ⟨.move (.loc 2), none, (some 12), true⟩])
 ((.seq (.ops [⟨.move (.var 10), none, none, true⟩, ⟨.move (.var 12), none, none, true⟩, ⟨.move (.var 11), none, none, true⟩, ⟨.bin .mul .no (.loc 1) (.loc 2), none, none, true⟩, ⟨.bin .sub .no (.loc 0) (.loc 3), none, none, true⟩, ⟨.move (.loc 4), none, (some 14), true⟩])
 ((.seq (.block 0 (.loop ((.seq ((.seq (.ops [⟨.move (.var 12), none, none, true⟩, ⟨.bin .geq .no (.loc 0) (.k (.int .u64 4294967296)), none, none, true⟩, ⟨.move (.loc 1), none, none, true⟩, ⟨.move (.var 12), none, none, true⟩, ⟨.move (.var 13), none, none, true⟩, ⟨.bin .mul .no (.loc 3) (.loc 4), none, none, true⟩, ⟨.move (.var 14), none, none, true⟩, ⟨.bin .mul .no (.k (.int .u64 4294967296)) (.loc 6), none, none, true⟩, ⟨.move (.var 15), none, none, true⟩, ⟨.bin .add .no (.loc 7) (.loc 8), none, none, true⟩, ⟨.bin .gtr .no (.loc 5) (.loc 9), none, none, true⟩, ⟨.pick (.loc 2) (.k (.bool true)) (.loc 10), none, (some 16), true⟩])
 (.cond (.var 16) (.skip) (.exit 0))))
 (.block 1 ((.seq (.ops [⟨.move (.var 12), none, none, true⟩, ⟨.bin .sub .no (.loc 0) (.k (.int .u64 1)), none, none, true⟩, ⟨.move (.loc 1), none, (some 12), true⟩])
 ((.seq (.ops [⟨.move (.var 14), none, none, true⟩, ⟨.move (.var 11), none, none, true⟩, ⟨.bin .add .no (.loc 0) (.loc 1), none, none, true⟩, ⟨.move (.loc 2), none, (some 14), true⟩])
 ((.seq (.ops [⟨.move (.var 14), none, none, true⟩, ⟨.bin .geq .no (.loc 0) (.k (.int .u64 4294967296)), none, (some 17), true⟩])
 (.cond (.var 17) (.exit 0) (.skip)))))))))))))
 ((.seq (.ops [⟨.move (.var 10), none, none, true⟩, ⟨.bin .mul .no (.loc 0) (.k (.int .u64 4294967296)), none, none, true⟩, ⟨.move (.var 15), none, none, true⟩, ⟨.bin .add .no (.loc 1) (.loc 2), none, none, true⟩, ⟨.move (.var 12), none, none, true⟩, ⟨.move (.var 2), none, none, true⟩, ⟨.bin .mul .no (.loc 4) (.loc 5), none, none, true⟩, ⟨.bin .sub .no (.loc 3) (.loc 6), none, none, true⟩, ⟨.move (.loc 7), none, (some 18), true⟩])
 ((.seq (.ops [⟨.move (.var 18), none, none, true⟩, ⟨.move (.var 11), none, none, true⟩, ⟨.bin .quo .no (.loc 0) (.loc 1), none, none, true⟩, ⟨.move (.loc 2), none, (some 19), true⟩])
 ((.seq (.ops [⟨.move (.var 18), none, none, true⟩, ⟨.move (.var 19), none, none, true⟩, ⟨.move (.var 11), none, none, true⟩, ⟨.bin .mul .no (.loc 1) (.loc 2), none, none, true⟩, ⟨.bin .sub .no (.loc 0) (.loc 3), none, none, true⟩, ⟨.move (.loc 4), none, (some 14), true⟩])
 ((.seq (.block 2 (.loop ((.seq ((.seq (.ops [⟨.move (.var 19), none, none, true⟩, ⟨.bin .geq .no (.loc 0) (.k (.int .u64 4294967296)), none, none, true⟩, ⟨.move (.loc 1), none, none, true⟩, ⟨.move (.var 19), none, none, true⟩, ⟨.move (.var 13), none, none, true⟩, ⟨.bin .mul .no (.loc 3) (.loc 4), none, none, true⟩, ⟨.move (.var 14), none, none, true⟩, ⟨.bin .mul .no (.k (.int .u64 4294967296)) (.loc 6), none, none, true⟩, ⟨.move (.var 20), none, none, true⟩, ⟨.bin .add .no (.loc 7) (.loc 8), none, none, true⟩, ⟨.bin .gtr .no (.loc 5) (.loc 9), none, none, true⟩, ⟨.pick (.loc 2) (.k (.bool true)) (.loc 10), none, (some 21), true⟩])
 (.cond (.var 21) (.skip) (.exit 2))))
 (.block 3 ((.seq (.ops [⟨.move (.var 19), none, none, true⟩, ⟨.bin .sub .no (.loc 0) (.k (.int .u64 1)), none, none, true⟩, ⟨.move (.loc 1), none, (some 19), true⟩])
 ((.seq (.ops [⟨.move (.var 14), none, none, true⟩, ⟨.move (.var 11), none, none, true⟩, ⟨.bin .add .no (.loc 0) (.loc 1), none, none, true⟩, ⟨.move (.loc 2), none, (some 14), true⟩])
 ((.seq (.ops [⟨.move (.var 14), none, none, true⟩, ⟨.bin .geq .no (.loc 0) (.k (.int .u64 4294967296)), none, (some 22), true⟩])
 (.cond (.var 22) (.exit 2) (.skip)))))))))))))
 ((.seq (.ops [⟨.move (.var 12), none, none, true⟩, ⟨.bin .mul .no (.loc 0) (.k (.int .u64 4294967296)), none, none, true⟩, ⟨.move (.var 19), none, none, true⟩, ⟨.bin .add .no (.loc 1) (.loc 2), none, none, true⟩, ⟨.move (.var 18), none, none, true⟩, ⟨.bin .mul .no (.loc 4) (.k (.int .u64 4294967296)), none, none, true⟩, ⟨.move (.var 20), none, none, true⟩, ⟨.bin .add .no (.loc 5) (.loc 6), none, none, true⟩, ⟨.move (.var 19), none, none, true⟩, ⟨.move (.var 2), none, none, true⟩, ⟨.bin .mul .no (.loc 8) (.loc 9), none, none, true⟩, ⟨.bin .sub .no (.loc 7) (.loc 10), none, none, true⟩, ⟨.move (.var 8), none, none, true⟩, ⟨.bin .shr .no (.loc 11) (.loc 12), none, none, true⟩, ⟨.move (.loc 3), none, (some 3), true⟩, ⟨.move (.loc 13), none, (some 4), true⟩])
 (.ret))))))))))))))))))))))))))))))))))))))))), none⟩
theorem v_mathbits_Div64 {F : Nat → Option RFunc} {me nmathbits_LeadingZeros64 : Nat} (hF : F me = some (rf_mathbits_Div64 nmathbits_LeadingZeros64)) {fl : Nat} {H : Heap} {Q : AV → Heap → Prop} (hi0 : Int) (lo1 : Int) (y2 : Int)
  (h : ((y2 = 0) → False) ∧ (¬(y2 = 0) → ((y2 ≤ hi0) → False) ∧ (¬(y2 ≤ hi0) → ((hi0 = 0) → y2 ≠ 0 ∧ y2 ≠ 0 ∧ Q (.tuple [(.int .u64 (IntKind.wrap .u64 (Int.tdiv lo1 y2))), (.int .u64 (Int.tmod lo1 y2))]) H) ∧ (¬(hi0 = 0) → Ret F fl nmathbits_LeadingZeros64 [(.int .u64 y2)] H (fun v5 H4 => ∃ (r3 : Int), v5 = (.int .i64 r3) ∧ 0 ≤ (IntKind.wrap .u64 (r3)) ∧ ∀ x6 : Int, x6 = (IntKind.wrap .u64 (y2 * 2 ^ (Min.min (Int.toNat (IntKind.wrap .u64 (r3))) (IntKind.bits .u64)))) → ∀ x7 : Int, x7 = (Int.fdiv x6 (2 ^ (Min.min (Int.toNat 32) (IntKind.bits .u64)))) → ∀ x8 : Int, x8 = (IntKind.wrap .u64 (((BitVec.ofInt (IntKind.bits .u64) x6 &&& BitVec.ofInt (IntKind.bits .u64) 4294967295).toNat : Int))) → 0 ≤ (IntKind.wrap .u64 (r3)) ∧ 0 ≤ (IntKind.wrap .u64 (64 - (IntKind.wrap .u64 (r3)))) ∧ ∀ x9 : Int, x9 = (IntKind.wrap .u64 (((BitVec.ofInt (IntKind.bits .u64) (IntKind.wrap .u64 (hi0 * 2 ^ (Min.min (Int.toNat (IntKind.wrap .u64 (r3))) (IntKind.bits .u64)))) ||| BitVec.ofInt (IntKind.bits .u64) (Int.fdiv lo1 (2 ^ (Min.min (Int.toNat (IntKind.wrap .u64 (64 - (IntKind.wrap .u64 (r3))))) (IntKind.bits .u64))))).toNat : Int))) → 0 ≤ (IntKind.wrap .u64 (r3)) ∧ ∀ x10 : Int, x10 = (IntKind.wrap .u64 (lo1 * 2 ^ (Min.min (Int.toNat (IntKind.wrap .u64 (r3))) (IntKind.bits .u64)))) → ∀ x11 : Int, x11 = (Int.fdiv x10 (2 ^ (Min.min (Int.toNat 32) (IntKind.bits .u64)))) → ∀ x12 : Int, x12 = (IntKind.wrap .u64 (((BitVec.ofInt (IntKind.bits .u64) x10 &&& BitVec.ofInt (IntKind.bits .u64) 4294967295).toNat : Int))) → x7 ≠ 0 ∧ ∀ x13 : Int, x13 = (IntKind.wrap .u64 (x9 - (IntKind.wrap .u64 ((IntKind.wrap .u64 (Int.tdiv x9 x7)) * x7)))) → ∃ (J14 : Nat → Int → Int → Prop) (k15 : Nat), J14 k15 (IntKind.wrap .u64 (Int.tdiv x9 x7)) x13 ∧ (∀ (m16 : Nat) (q117 : Int) (rhat18 : Int), J14 m16 q117 rhat18 → ((((q117 ≥ 4294967296) ∨ ((IntKind.wrap .u64 (q117 * x8)) > (IntKind.wrap .u64 ((IntKind.wrap .u64 (4294967296 * rhat18)) + x11))))) → (((IntKind.wrap .u64 (rhat18 + x7)) ≥ 4294967296) → ∀ x21 : Int, x21 = (IntKind.wrap .u64 ((IntKind.wrap .u64 ((IntKind.wrap .u64 (x9 * 4294967296)) + x11)) - (IntKind.wrap .u64 ((IntKind.wrap .u64 (q117 - 1)) * x6)))) → x7 ≠ 0 ∧ ∀ x22 : Int, x22 = (IntKind.wrap .u64 (x21 - (IntKind.wrap .u64 ((IntKind.wrap .u64 (Int.tdiv x21 x7)) * x7)))) → ∃ (J23 : Nat → Int → Int → Prop) (k24 : Nat), J23 k24 x22 (IntKind.wrap .u64 (Int.tdiv x21 x7)) ∧ (∀ (m25 : Nat) (rhat26 : Int) (q027 : Int), J23 m25 rhat26 q027 → ((((q027 ≥ 4294967296) ∨ ((IntKind.wrap .u64 (q027 * x8)) > (IntKind.wrap .u64 ((IntKind.wrap .u64 (4294967296 * rhat26)) + x12))))) → (((IntKind.wrap .u64 (rhat26 + x7)) ≥ 4294967296) → 0 ≤ (IntKind.wrap .u64 (r3)) ∧ ∀ x30 : Int, x30 = (IntKind.wrap .u64 ((IntKind.wrap .u64 ((IntKind.wrap .u64 (q117 - 1)) * 4294967296)) + (IntKind.wrap .u64 (q027 - 1)))) → ∀ x31 : Int, x31 = (Int.fdiv (IntKind.wrap .u64 ((IntKind.wrap .u64 ((IntKind.wrap .u64 (x21 * 4294967296)) + x12)) - (IntKind.wrap .u64 ((IntKind.wrap .u64 (q027 - 1)) * x6)))) (2 ^ (Min.min (Int.toNat (IntKind.wrap .u64 (r3))) (IntKind.bits .u64)))) → Q (.tuple [(.int .u64 x30), (.int .u64 x31)]) H4) ∧ (¬((IntKind.wrap .u64 (rhat26 + x7)) ≥ 4294967296) → ∃ m32 : Nat, m32 < m25 ∧ J23 m32 (IntKind.wrap .u64 (rhat26 + x7)) (IntKind.wrap .u64 (q027 - 1)))) ∧ (¬(((q027 ≥ 4294967296) ∨ ((IntKind.wrap .u64 (q027 * x8)) > (IntKind.wrap .u64 ((IntKind.wrap .u64 (4294967296 * rhat26)) + x12))))) → 0 ≤ (IntKind.wrap .u64 (r3)) ∧ ∀ x33 : Int, x33 = (IntKind.wrap .u64 ((IntKind.wrap .u64 ((IntKind.wrap .u64 (q117 - 1)) * 4294967296)) + q027)) → ∀ x34 : Int, x34 = (Int.fdiv (IntKind.wrap .u64 ((IntKind.wrap .u64 ((IntKind.wrap .u64 (x21 * 4294967296)) + x12)) - (IntKind.wrap .u64 (q027 * x6)))) (2 ^ (Min.min (Int.toNat (IntKind.wrap .u64 (r3))) (IntKind.bits .u64)))) → Q (.tuple [(.int .u64 x33), (.int .u64 x34)]) H4))) ∧ (¬((IntKind.wrap .u64 (rhat18 + x7)) ≥ 4294967296) → ∃ m35 : Nat, m35 < m16 ∧ J14 m35 (IntKind.wrap .u64 (q117 - 1)) (IntKind.wrap .u64 (rhat18 + x7)))) ∧ (¬(((q117 ≥ 4294967296) ∨ ((IntKind.wrap .u64 (q117 * x8)) > (IntKind.wrap .u64 ((IntKind.wrap .u64 (4294967296 * rhat18)) + x11))))) → ∀ x36 : Int, x36 = (IntKind.wrap .u64 ((IntKind.wrap .u64 ((IntKind.wrap .u64 (x9 * 4294967296)) + x11)) - (IntKind.wrap .u64 (q117 * x6)))) → x7 ≠ 0 ∧ ∀ x37 : Int, x37 = (IntKind.wrap .u64 (x36 - (IntKind.wrap .u64 ((IntKind.wrap .u64 (Int.tdiv x36 x7)) * x7)))) → ∃ (J38 : Nat → Int → Int → Prop) (k39 : Nat), J38 k39 x37 (IntKind.wrap .u64 (Int.tdiv x36 x7)) ∧ (∀ (m40 : Nat) (rhat41 : Int) (q042 : Int), J38 m40 rhat41 q042 → ((((q042 ≥ 4294967296) ∨ ((IntKind.wrap .u64 (q042 * x8)) > (IntKind.wrap .u64 ((IntKind.wrap .u64 (4294967296 * rhat41)) + x12))))) → (((IntKind.wrap .u64 (rhat41 + x7)) ≥ 4294967296) → 0 ≤ (IntKind.wrap .u64 (r3)) ∧ ∀ x45 : Int, x45 = (IntKind.wrap .u64 ((IntKind.wrap .u64 (q117 * 4294967296)) + (IntKind.wrap .u64 (q042 - 1)))) → ∀ x46 : Int, x46 = (Int.fdiv (IntKind.wrap .u64 ((IntKind.wrap .u64 ((IntKind.wrap .u64 (x36 * 4294967296)) + x12)) - (IntKind.wrap .u64 ((IntKind.wrap .u64 (q042 - 1)) * x6)))) (2 ^ (Min.min (Int.toNat (IntKind.wrap .u64 (r3))) (IntKind.bits .u64)))) → Q (.tuple [(.int .u64 x45), (.int .u64 x46)]) H4) ∧ (¬((IntKind.wrap .u64 (rhat41 + x7)) ≥ 4294967296) → ∃ m47 : Nat, m47 < m40 ∧ J38 m47 (IntKind.wrap .u64 (rhat41 + x7)) (IntKind.wrap .u64 (q042 - 1)))) ∧ (¬(((q042 ≥ 4294967296) ∨ ((IntKind.wrap .u64 (q042 * x8)) > (IntKind.wrap .u64 ((IntKind.wrap .u64 (4294967296 * rhat41)) + x12))))) → 0 ≤ (IntKind.wrap .u64 (r3)) ∧ ∀ x48 : Int, x48 = (IntKind.wrap .u64 ((IntKind.wrap .u64 (q117 * 4294967296)) + q042)) → ∀ x49 : Int, x49 = (Int.fdiv (IntKind.wrap .u64 ((IntKind.wrap .u64 ((IntKind.wrap .u64 (x36 * 4294967296)) + x12)) - (IntKind.wrap .u64 (q042 * x6)))) (2 ^ (Min.min (Int.toNat (IntKind.wrap .u64 (r3))) (IntKind.bits .u64)))) → Q (.tuple [(.int .u64 x48), (.int .u64 x49)]) H4))))))))) : Ret F fl me [(.int .u64 hi0), (.int .u64 lo1), (.int .u64 y2)] H Q := by
  refine ret_intro hF rfl ?_
  refine w_seq ?_
  refine w_run [0, 0] ?_
  refine t_done [(.int .u64 hi0), (.int .u64 lo1), (.int .u64 y2), (.int .u64 0), (.int .u64 0), .undef, .undef, .undef, .undef, .undef, .undef, .undef, .undef, .undef, .undef, .undef, .undef, .undef, .undef, .undef, .undef, .undef, .undef] H (by kernel_rfl) ?_
  refine then_norm ?_
  refine w_seq ?_
  refine w_seq ?_
  refine w_run [0, 0] ?_
  refine t_done [(.int .u64 hi0), (.int .u64 lo1), (.int .u64 y2), (.int .u64 0), (.int .u64 0), (.bool ((y2) == 0)), .undef, .undef, .undef, .undef, .undef, .undef, .undef, .undef, .undef, .undef, .undef, .undef, .undef, .undef, .undef, .undef, .undef] H (by kernel_rfl) ?_
  refine then_norm ?_
  refine w_cond (t := ((y2) == 0)) rfl (fun hc => ?_) (fun hc => ?_)
  · replace h := h.1 (is_eq.t hc)
    refine w_run [0, 0] ?_
    exact h.elim
  · replace h := h.2 (is_eq.f hc)
    refine w_skip ?_
    refine then_norm ?_
    refine w_seq ?_
    refine w_seq ?_
    refine w_run [0, 0, 0] ?_
    refine t_done [(.int .u64 hi0), (.int .u64 lo1), (.int .u64 y2), (.int .u64 0), (.int .u64 0), (.bool ((y2) == 0)), (.bool (decide (y2 ≤ hi0))), .undef, .undef, .undef, .undef, .undef, .undef, .undef, .undef, .undef, .undef, .undef, .undef, .undef, .undef, .undef, .undef] H (by kernel_rfl) ?_
    refine then_norm ?_
    refine w_cond (t := (decide (y2 ≤ hi0))) rfl (fun hc => ?_) (fun hc => ?_)
    · replace h := h.1 (is_dec.t hc)
      refine w_run [0, 0] ?_
      exact h.elim
    · replace h := h.2 (is_dec.f hc)
      refine w_skip ?_
      refine then_norm ?_
      refine w_seq ?_
      refine w_seq ?_
      refine w_run [0, 0] ?_
      refine t_done [(.int .u64 hi0), (.int .u64 lo1), (.int .u64 y2), (.int .u64 0), (.int .u64 0), (.bool ((y2) == 0)), (.bool (decide (y2 ≤ hi0))), (.bool ((hi0) == 0)), .undef, .undef, .undef, .undef, .undef, .undef, .undef, .undef, .undef, .undef, .undef, .undef, .undef, .undef, .undef] H (by kernel_rfl) ?_
      refine then_norm ?_
      refine w_cond (t := ((hi0) == 0)) rfl (fun hc => ?_) (fun hc => ?_)
      · replace h := h.1 (is_eq.t hc)
        refine w_seq ?_
        refine w_run [0, 0, 1, 0, 0, 1, 0, 0] ?_
        obtain ⟨hq, h⟩ := h
        refine t_quo true .no .u64 lo1 y2 H (by kernel_rfl) hq ?_
        obtain ⟨hq, h⟩ := h
        refine t_rem true .no .u64 lo1 y2 H (by kernel_rfl) hq ?_
        refine t_done [(.int .u64 hi0), (.int .u64 lo1), (.int .u64 y2), (.int .u64 (IntKind.wrap .u64 (Int.tdiv lo1 y2))), (.int .u64 (Int.tmod lo1 y2)), (.bool ((y2) == 0)), (.bool (decide (y2 ≤ hi0))), (.bool ((hi0) == 0)), .undef, .undef, .undef, .undef, .undef, .undef, .undef, .undef, .undef, .undef, .undef, .undef, .undef, .undef, .undef] H (by kernel_rfl) ?_
        refine then_norm ?_
        refine w_ret ?_
        refine then_ret ?_
        exact body_ret (vs := [(.int .u64 (IntKind.wrap .u64 (Int.tdiv lo1 y2))), (.int .u64 (Int.tmod lo1 y2))]) _ (by kernel_rfl) rfl h
      · replace h := h.2 (is_eq.f hc)
        refine w_skip ?_
        refine then_norm ?_
        refine w_seq ?_
        refine w_run [0, 1, 0, 0] ?_
        refine t_call true nmathbits_LeadingZeros64 [(.int .u64 y2)] H (by kernel_rfl) h ?_
        clear h
        rintro _ H4 ⟨r3, rfl, h⟩
        refine t_done [(.int .u64 hi0), (.int .u64 lo1), (.int .u64 y2), (.int .u64 0), (.int .u64 0), (.bool ((y2) == 0)), (.bool (decide (y2 ≤ hi0))), (.bool ((hi0) == 0)), (.int .u64 (IntKind.wrap .u64 (r3))), .undef, .undef, .undef, .undef, .undef, .undef, .undef, .undef, .undef, .undef, .undef, .undef, .undef, .undef] H4 (by kernel_rfl) ?_
        refine then_norm ?_
        refine w_seq ?_
        refine w_run [0, 0, 1, 0] ?_
        obtain ⟨hq, h⟩ := h
        refine t_shl true .no .u64 .u64 y2 (IntKind.wrap .u64 (r3)) H4 (by kernel_rfl) hq ?_
        refine t_done [(.int .u64 hi0), (.int .u64 lo1), (.int .u64 (IntKind.wrap .u64 (y2 * 2 ^ (Min.min (Int.toNat (IntKind.wrap .u64 (r3))) (IntKind.bits .u64))))), (.int .u64 0), (.int .u64 0), (.bool ((y2) == 0)), (.bool (decide (y2 ≤ hi0))), (.bool ((hi0) == 0)), (.int .u64 (IntKind.wrap .u64 (r3))), .undef, .undef, .undef, .undef, .undef, .undef, .undef, .undef, .undef, .undef, .undef, .undef, .undef, .undef] H4 (by kernel_rfl) ?_
        generalize hx6 : (IntKind.wrap .u64 (y2 * 2 ^ (Min.min (Int.toNat (IntKind.wrap .u64 (r3))) (IntKind.bits .u64)))) = x6 at h ⊢
        replace h := h x6 rfl
        refine then_norm ?_
        refine w_seq ?_
        refine w_run [0, 1, 0] ?_
        refine t_shr true .no .u64 .u64 x6 32 H4 (by kernel_rfl) (by decide) ?_
        refine t_done [(.int .u64 hi0), (.int .u64 lo1), (.int .u64 x6), (.int .u64 0), (.int .u64 0), (.bool ((y2) == 0)), (.bool (decide (y2 ≤ hi0))), (.bool ((hi0) == 0)), (.int .u64 (IntKind.wrap .u64 (r3))), .undef, .undef, (.int .u64 (Int.fdiv x6 (2 ^ (Min.min (Int.toNat 32) (IntKind.bits .u64))))), .undef, .undef, .undef, .undef, .undef, .undef, .undef, .undef, .undef, .undef, .undef] H4 (by kernel_rfl) ?_
        generalize hx7 : (Int.fdiv x6 (2 ^ (Min.min (Int.toNat 32) (IntKind.bits .u64)))) = x7 at h ⊢
        replace h := h x7 rfl
        refine then_norm ?_
        refine w_seq ?_
        refine w_run [0, 0, 0] ?_
        refine t_done [(.int .u64 hi0), (.int .u64 lo1), (.int .u64 x6), (.int .u64 0), (.int .u64 0), (.bool ((y2) == 0)), (.bool (decide (y2 ≤ hi0))), (.bool ((hi0) == 0)), (.int .u64 (IntKind.wrap .u64 (r3))), .undef, .undef, (.int .u64 x7), .undef, (.int .u64 (IntKind.wrap .u64 (((BitVec.ofInt (IntKind.bits .u64) x6 &&& BitVec.ofInt (IntKind.bits .u64) 4294967295).toNat : Int)))), .undef, .undef, .undef, .undef, .undef, .undef, .undef, .undef, .undef] H4 (by kernel_rfl) ?_
        generalize hx8 : (IntKind.wrap .u64 (((BitVec.ofInt (IntKind.bits .u64) x6 &&& BitVec.ofInt (IntKind.bits .u64) 4294967295).toNat : Int))) = x8 at h ⊢
        replace h := h x8 rfl
        refine then_norm ?_
        refine w_seq ?_
        refine w_run [0, 0, 1, 0, 0, 0, 1, 0, 0] ?_
        obtain ⟨hq, h⟩ := h
        refine t_shl true .no .u64 .u64 hi0 (IntKind.wrap .u64 (r3)) H4 (by kernel_rfl) hq ?_
        obtain ⟨hq, h⟩ := h
        refine t_shr true .no .u64 .u64 lo1 (IntKind.wrap .u64 (64 - (IntKind.wrap .u64 (r3)))) H4 (by kernel_rfl) hq ?_
        refine t_done [(.int .u64 hi0), (.int .u64 lo1), (.int .u64 x6), (.int .u64 0), (.int .u64 0), (.bool ((y2) == 0)), (.bool (decide (y2 ≤ hi0))), (.bool ((hi0) == 0)), (.int .u64 (IntKind.wrap .u64 (r3))), .undef, (.int .u64 (IntKind.wrap .u64 (((BitVec.ofInt (IntKind.bits .u64) (IntKind.wrap .u64 (hi0 * 2 ^ (Min.min (Int.toNat (IntKind.wrap .u64 (r3))) (IntKind.bits .u64)))) ||| BitVec.ofInt (IntKind.bits .u64) (Int.fdiv lo1 (2 ^ (Min.min (Int.toNat (IntKind.wrap .u64 (64 - (IntKind.wrap .u64 (r3))))) (IntKind.bits .u64))))).toNat : Int)))), (.int .u64 x7), .undef, (.int .u64 x8), .undef, .undef, .undef, .undef, .undef, .undef, .undef, .undef, .undef] H4 (by kernel_rfl) ?_
        generalize hx9 : (IntKind.wrap .u64 (((BitVec.ofInt (IntKind.bits .u64) (IntKind.wrap .u64 (hi0 * 2 ^ (Min.min (Int.toNat (IntKind.wrap .u64 (r3))) (IntKind.bits .u64)))) ||| BitVec.ofInt (IntKind.bits .u64) (Int.fdiv lo1 (2 ^ (Min.min (Int.toNat (IntKind.wrap .u64 (64 - (IntKind.wrap .u64 (r3))))) (IntKind.bits .u64))))).toNat : Int))) = x9 at h ⊢
        replace h := h x9 rfl
        refine then_norm ?_
        refine w_seq ?_
        refine w_run [0, 0, 1, 0] ?_
        obtain ⟨hq, h⟩ := h
        refine t_shl true .no .u64 .u64 lo1 (IntKind.wrap .u64 (r3)) H4 (by kernel_rfl) hq ?_
        refine t_done [(.int .u64 hi0), (.int .u64 lo1), (.int .u64 x6), (.int .u64 0), (.int .u64 0), (.bool ((y2) == 0)), (.bool (decide (y2 ≤ hi0))), (.bool ((hi0) == 0)), (.int .u64 (IntKind.wrap .u64 (r3))), (.int .u64 (IntKind.wrap .u64 (lo1 * 2 ^ (Min.min (Int.toNat (IntKind.wrap .u64 (r3))) (IntKind.bits .u64))))), (.int .u64 x9), (.int .u64 x7), .undef, (.int .u64 x8), .undef, .undef, .undef, .undef, .undef, .undef, .undef, .undef, .undef] H4 (by kernel_rfl) ?_
        generalize hx10 : (IntKind.wrap .u64 (lo1 * 2 ^ (Min.min (Int.toNat (IntKind.wrap .u64 (r3))) (IntKind.bits .u64)))) = x10 at h ⊢
        replace h := h x10 rfl
        refine then_norm ?_
        refine w_seq ?_
        refine w_run [0, 1, 0] ?_
        refine t_shr true .no .u64 .u64 x10 32 H4 (by kernel_rfl) (by decide) ?_
        refine t_done [(.int .u64 hi0), (.int .u64 lo1), (.int .u64 x6), (.int .u64 0), (.int .u64 0), (.bool ((y2) == 0)), (.bool (decide (y2 ≤ hi0))), (.bool ((hi0) == 0)), (.int .u64 (IntKind.wrap .u64 (r3))), (.int .u64 x10), (.int .u64 x9), (.int .u64 x7), .undef, (.int .u64 x8), .undef, (.int .u64 (Int.fdiv x10 (2 ^ (Min.min (Int.toNat 32) (IntKind.bits .u64))))), .undef, .undef, .undef, .undef, .undef, .undef, .undef] H4 (by kernel_rfl) ?_
        generalize hx11 : (Int.fdiv x10 (2 ^ (Min.min (Int.toNat 32) (IntKind.bits .u64)))) = x11 at h ⊢
        replace h := h x11 rfl
        refine then_norm ?_
        refine w_seq ?_
        refine w_run [0, 0, 0] ?_
        refine t_done [(.int .u64 hi0), (.int .u64 lo1), (.int .u64 x6), (.int .u64 0), (.int .u64 0), (.bool ((y2) == 0)), (.bool (decide (y2 ≤ hi0))), (.bool ((hi0) == 0)), (.int .u64 (IntKind.wrap .u64 (r3))), (.int .u64 x10), (.int .u64 x9), (.int .u64 x7), .undef, (.int .u64 x8), .undef, (.int .u64 x11), .undef, .undef, .undef, .undef, (.int .u64 (IntKind.wrap .u64 (((BitVec.ofInt (IntKind.bits .u64) x10 &&& BitVec.ofInt (IntKind.bits .u64) 4294967295).toNat : Int)))), .undef, .undef] H4 (by kernel_rfl) ?_
        generalize hx12 : (IntKind.wrap .u64 (((BitVec.ofInt (IntKind.bits .u64) x10 &&& BitVec.ofInt (IntKind.bits .u64) 4294967295).toNat : Int))) = x12 at h ⊢
        replace h := h x12 rfl
        refine then_norm ?_
        refine w_seq ?_
        refine w_run [0, 0, 1, 0] ?_
        obtain ⟨hq, h⟩ := h
        refine t_quo true .no .u64 x9 x7 H4 (by kernel_rfl) hq ?_
        refine t_done [(.int .u64 hi0), (.int .u64 lo1), (.int .u64 x6), (.int .u64 0), (.int .u64 0), (.bool ((y2) == 0)), (.bool (decide (y2 ≤ hi0))), (.bool ((hi0) == 0)), (.int .u64 (IntKind.wrap .u64 (r3))), (.int .u64 x10), (.int .u64 x9), (.int .u64 x7), (.int .u64 (IntKind.wrap .u64 (Int.tdiv x9 x7))), (.int .u64 x8), .undef, (.int .u64 x11), .undef, .undef, .undef, .undef, (.int .u64 x12), .undef, .undef] H4 (by kernel_rfl) ?_
        refine then_norm ?_
        refine w_seq ?_
        refine w_run [0, 0, 0, 0, 0, 0] ?_
        refine t_done [(.int .u64 hi0), (.int .u64 lo1), (.int .u64 x6), (.int .u64 0), (.int .u64 0), (.bool ((y2) == 0)), (.bool (decide (y2 ≤ hi0))), (.bool ((hi0) == 0)), (.int .u64 (IntKind.wrap .u64 (r3))), (.int .u64 x10), (.int .u64 x9), (.int .u64 x7), (.int .u64 (IntKind.wrap .u64 (Int.tdiv x9 x7))), (.int .u64 x8), (.int .u64 (IntKind.wrap .u64 (x9 - (IntKind.wrap .u64 ((IntKind.wrap .u64 (Int.tdiv x9 x7)) * x7))))), (.int .u64 x11), .undef, .undef, .undef, .undef, (.int .u64 x12), .undef, .undef] H4 (by kernel_rfl) ?_
        generalize hx13 : (IntKind.wrap .u64 (x9 - (IntKind.wrap .u64 ((IntKind.wrap .u64 (Int.tdiv x9 x7)) * x7)))) = x13 at h ⊢
        replace h := h x13 rfl
        refine then_norm ?_
        refine w_seq ?_
        refine w_block ?_
        obtain ⟨J14, k15, h0, h⟩ := h
        refine w_loop (I := fun mI EI HI => ∃ (q117 : Int) (rhat18 : Int) (d19 : AV) (d20 : AV), EI = [(.int .u64 hi0), (.int .u64 lo1), (.int .u64 x6), (.int .u64 0), (.int .u64 0), (.bool ((y2) == 0)), (.bool (decide (y2 ≤ hi0))), (.bool ((hi0) == 0)), (.int .u64 (IntKind.wrap .u64 (r3))), (.int .u64 x10), (.int .u64 x9), (.int .u64 x7), (.int .u64 q117), (.int .u64 x8), (.int .u64 rhat18), (.int .u64 x11), d19, d20, .undef, .undef, (.int .u64 x12), .undef, .undef] ∧ H4 = HI ∧ J14 mI q117 rhat18) ?_ k15 ⟨_, _, _, _, rfl, rfl, h0⟩
        clear h0
        rintro m16 EI HI ⟨q117, rhat18, d19, d20, rfl, rfl, hJ⟩
        replace h := h m16 q117 rhat18  hJ
        clear hJ
        refine w_seq ?_
        refine w_seq ?_
        refine w_run [0, 0, 0, 0, 0, 0, 0, 0, 0, 0, 0, 0] ?_
        refine t_done [(.int .u64 hi0), (.int .u64 lo1), (.int .u64 x6), (.int .u64 0), (.int .u64 0), (.bool ((y2) == 0)), (.bool (decide (y2 ≤ hi0))), (.bool ((hi0) == 0)), (.int .u64 (IntKind.wrap .u64 (r3))), (.int .u64 x10), (.int .u64 x9), (.int .u64 x7), (.int .u64 q117), (.int .u64 x8), (.int .u64 rhat18), (.int .u64 x11), (.bool ((decide (q117 ≥ 4294967296)) || (decide ((IntKind.wrap .u64 (q117 * x8)) > (IntKind.wrap .u64 ((IntKind.wrap .u64 (4294967296 * rhat18)) + x11)))))), d20, .undef, .undef, (.int .u64 x12), .undef, .undef] H4 (by kernel_rfl) ?_
        refine then_norm ?_
        refine w_cond (t := ((decide (q117 ≥ 4294967296)) || (decide ((IntKind.wrap .u64 (q117 * x8)) > (IntKind.wrap .u64 ((IntKind.wrap .u64 (4294967296 * rhat18)) + x11)))))) rfl (fun hc => ?_) (fun hc => ?_)
        · replace h := h.1 ((is_or is_dec is_dec).t hc)
          refine w_skip ?_
          refine then_norm ?_
          refine w_block ?_
          refine w_seq ?_
          refine w_run [0, 0, 0] ?_
          refine t_done [(.int .u64 hi0), (.int .u64 lo1), (.int .u64 x6), (.int .u64 0), (.int .u64 0), (.bool ((y2) == 0)), (.bool (decide (y2 ≤ hi0))), (.bool ((hi0) == 0)), (.int .u64 (IntKind.wrap .u64 (r3))), (.int .u64 x10), (.int .u64 x9), (.int .u64 x7), (.int .u64 (IntKind.wrap .u64 (q117 - 1))), (.int .u64 x8), (.int .u64 rhat18), (.int .u64 x11), (.bool ((decide (q117 ≥ 4294967296)) || (decide ((IntKind.wrap .u64 (q117 * x8)) > (IntKind.wrap .u64 ((IntKind.wrap .u64 (4294967296 * rhat18)) + x11)))))), d20, .undef, .undef, (.int .u64 x12), .undef, .undef] H4 (by kernel_rfl) ?_
          refine then_norm ?_
          refine w_seq ?_
          refine w_run [0, 0, 0, 0] ?_
          refine t_done [(.int .u64 hi0), (.int .u64 lo1), (.int .u64 x6), (.int .u64 0), (.int .u64 0), (.bool ((y2) == 0)), (.bool (decide (y2 ≤ hi0))), (.bool ((hi0) == 0)), (.int .u64 (IntKind.wrap .u64 (r3))), (.int .u64 x10), (.int .u64 x9), (.int .u64 x7), (.int .u64 (IntKind.wrap .u64 (q117 - 1))), (.int .u64 x8), (.int .u64 (IntKind.wrap .u64 (rhat18 + x7))), (.int .u64 x11), (.bool ((decide (q117 ≥ 4294967296)) || (decide ((IntKind.wrap .u64 (q117 * x8)) > (IntKind.wrap .u64 ((IntKind.wrap .u64 (4294967296 * rhat18)) + x11)))))), d20, .undef, .undef, (.int .u64 x12), .undef, .undef] H4 (by kernel_rfl) ?_
          refine then_norm ?_
          refine w_seq ?_
          refine w_run [0, 0] ?_
          refine t_done [(.int .u64 hi0), (.int .u64 lo1), (.int .u64 x6), (.int .u64 0), (.int .u64 0), (.bool ((y2) == 0)), (.bool (decide (y2 ≤ hi0))), (.bool ((hi0) == 0)), (.int .u64 (IntKind.wrap .u64 (r3))), (.int .u64 x10), (.int .u64 x9), (.int .u64 x7), (.int .u64 (IntKind.wrap .u64 (q117 - 1))), (.int .u64 x8), (.int .u64 (IntKind.wrap .u64 (rhat18 + x7))), (.int .u64 x11), (.bool ((decide (q117 ≥ 4294967296)) || (decide ((IntKind.wrap .u64 (q117 * x8)) > (IntKind.wrap .u64 ((IntKind.wrap .u64 (4294967296 * rhat18)) + x11)))))), (.bool (decide ((IntKind.wrap .u64 (rhat18 + x7)) ≥ 4294967296))), .undef, .undef, (.int .u64 x12), .undef, .undef] H4 (by kernel_rfl) ?_
          refine then_norm ?_
          refine w_cond (t := (decide ((IntKind.wrap .u64 (rhat18 + x7)) ≥ 4294967296))) rfl (fun hc => ?_) (fun hc => ?_)
          · replace h := h.1 (is_dec.t hc)
            refine w_exit ?_
            refine block_past (by decide) ?_
            refine loop_exit ?_
            refine block_exit ?_
            refine then_norm ?_
            refine w_seq ?_
            refine w_run [0, 0, 0, 0, 0, 0, 0, 0, 0] ?_
            refine t_done [(.int .u64 hi0), (.int .u64 lo1), (.int .u64 x6), (.int .u64 0), (.int .u64 0), (.bool ((y2) == 0)), (.bool (decide (y2 ≤ hi0))), (.bool ((hi0) == 0)), (.int .u64 (IntKind.wrap .u64 (r3))), (.int .u64 x10), (.int .u64 x9), (.int .u64 x7), (.int .u64 (IntKind.wrap .u64 (q117 - 1))), (.int .u64 x8), (.int .u64 (IntKind.wrap .u64 (rhat18 + x7))), (.int .u64 x11), (.bool ((decide (q117 ≥ 4294967296)) || (decide ((IntKind.wrap .u64 (q117 * x8)) > (IntKind.wrap .u64 ((IntKind.wrap .u64 (4294967296 * rhat18)) + x11)))))), (.bool (decide ((IntKind.wrap .u64 (rhat18 + x7)) ≥ 4294967296))), (.int .u64 (IntKind.wrap .u64 ((IntKind.wrap .u64 ((IntKind.wrap .u64 (x9 * 4294967296)) + x11)) - (IntKind.wrap .u64 ((IntKind.wrap .u64 (q117 - 1)) * x6))))), .undef, (.int .u64 x12), .undef, .undef] H4 (by kernel_rfl) ?_
            generalize hx21 : (IntKind.wrap .u64 ((IntKind.wrap .u64 ((IntKind.wrap .u64 (x9 * 4294967296)) + x11)) - (IntKind.wrap .u64 ((IntKind.wrap .u64 (q117 - 1)) * x6)))) = x21 at h ⊢
            replace h := h x21 rfl
            refine then_norm ?_
            refine w_seq ?_
            refine w_run [0, 0, 1, 0] ?_
            obtain ⟨hq, h⟩ := h
            refine t_quo true .no .u64 x21 x7 H4 (by kernel_rfl) hq ?_
            refine t_done [(.int .u64 hi0), (.int .u64 lo1), (.int .u64 x6), (.int .u64 0), (.int .u64 0), (.bool ((y2) == 0)), (.bool (decide (y2 ≤ hi0))), (.bool ((hi0) == 0)), (.int .u64 (IntKind.wrap .u64 (r3))), (.int .u64 x10), (.int .u64 x9), (.int .u64 x7), (.int .u64 (IntKind.wrap .u64 (q117 - 1))), (.int .u64 x8), (.int .u64 (IntKind.wrap .u64 (rhat18 + x7))), (.int .u64 x11), (.bool ((decide (q117 ≥ 4294967296)) || (decide ((IntKind.wrap .u64 (q117 * x8)) > (IntKind.wrap .u64 ((IntKind.wrap .u64 (4294967296 * rhat18)) + x11)))))), (.bool (decide ((IntKind.wrap .u64 (rhat18 + x7)) ≥ 4294967296))), (.int .u64 x21), (.int .u64 (IntKind.wrap .u64 (Int.tdiv x21 x7))), (.int .u64 x12), .undef, .undef] H4 (by kernel_rfl) ?_
            refine then_norm ?_
            refine w_seq ?_
            refine w_run [0, 0, 0, 0, 0, 0] ?_
            refine t_done [(.int .u64 hi0), (.int .u64 lo1), (.int .u64 x6), (.int .u64 0), (.int .u64 0), (.bool ((y2) == 0)), (.bool (decide (y2 ≤ hi0))), (.bool ((hi0) == 0)), (.int .u64 (IntKind.wrap .u64 (r3))), (.int .u64 x10), (.int .u64 x9), (.int .u64 x7), (.int .u64 (IntKind.wrap .u64 (q117 - 1))), (.int .u64 x8), (.int .u64 (IntKind.wrap .u64 (x21 - (IntKind.wrap .u64 ((IntKind.wrap .u64 (Int.tdiv x21 x7)) * x7))))), (.int .u64 x11), (.bool ((decide (q117 ≥ 4294967296)) || (decide ((IntKind.wrap .u64 (q117 * x8)) > (IntKind.wrap .u64 ((IntKind.wrap .u64 (4294967296 * rhat18)) + x11)))))), (.bool (decide ((IntKind.wrap .u64 (rhat18 + x7)) ≥ 4294967296))), (.int .u64 x21), (.int .u64 (IntKind.wrap .u64 (Int.tdiv x21 x7))), (.int .u64 x12), .undef, .undef] H4 (by kernel_rfl) ?_
            generalize hx22 : (IntKind.wrap .u64 (x21 - (IntKind.wrap .u64 ((IntKind.wrap .u64 (Int.tdiv x21 x7)) * x7)))) = x22 at h ⊢
            replace h := h x22 rfl
            refine then_norm ?_
            refine w_seq ?_
            refine w_block ?_
            obtain ⟨J23, k24, h0, h⟩ := h
            refine w_loop (I := fun mI EI HI => ∃ (rhat26 : Int) (q027 : Int) (d28 : AV) (d29 : AV), EI = [(.int .u64 hi0), (.int .u64 lo1), (.int .u64 x6), (.int .u64 0), (.int .u64 0), (.bool ((y2) == 0)), (.bool (decide (y2 ≤ hi0))), (.bool ((hi0) == 0)), (.int .u64 (IntKind.wrap .u64 (r3))), (.int .u64 x10), (.int .u64 x9), (.int .u64 x7), (.int .u64 (IntKind.wrap .u64 (q117 - 1))), (.int .u64 x8), (.int .u64 rhat26), (.int .u64 x11), (.bool ((decide (q117 ≥ 4294967296)) || (decide ((IntKind.wrap .u64 (q117 * x8)) > (IntKind.wrap .u64 ((IntKind.wrap .u64 (4294967296 * rhat18)) + x11)))))), (.bool (decide ((IntKind.wrap .u64 (rhat18 + x7)) ≥ 4294967296))), (.int .u64 x21), (.int .u64 q027), (.int .u64 x12), d28, d29] ∧ H4 = HI ∧ J23 mI rhat26 q027) ?_ k24 ⟨_, _, _, _, rfl, rfl, h0⟩
            clear h0
            rintro m25 EI HI ⟨rhat26, q027, d28, d29, rfl, rfl, hJ⟩
            replace h := h m25 rhat26 q027  hJ
            clear hJ
            refine w_seq ?_
            refine w_seq ?_
            refine w_run [0, 0, 0, 0, 0, 0, 0, 0, 0, 0, 0, 0] ?_
            refine t_done [(.int .u64 hi0), (.int .u64 lo1), (.int .u64 x6), (.int .u64 0), (.int .u64 0), (.bool ((y2) == 0)), (.bool (decide (y2 ≤ hi0))), (.bool ((hi0) == 0)), (.int .u64 (IntKind.wrap .u64 (r3))), (.int .u64 x10), (.int .u64 x9), (.int .u64 x7), (.int .u64 (IntKind.wrap .u64 (q117 - 1))), (.int .u64 x8), (.int .u64 rhat26), (.int .u64 x11), (.bool ((decide (q117 ≥ 4294967296)) || (decide ((IntKind.wrap .u64 (q117 * x8)) > (IntKind.wrap .u64 ((IntKind.wrap .u64 (4294967296 * rhat18)) + x11)))))), (.bool (decide ((IntKind.wrap .u64 (rhat18 + x7)) ≥ 4294967296))), (.int .u64 x21), (.int .u64 q027), (.int .u64 x12), (.bool ((decide (q027 ≥ 4294967296)) || (decide ((IntKind.wrap .u64 (q027 * x8)) > (IntKind.wrap .u64 ((IntKind.wrap .u64 (4294967296 * rhat26)) + x12)))))), d29] H4 (by kernel_rfl) ?_
            refine then_norm ?_
            refine w_cond (t := ((decide (q027 ≥ 4294967296)) || (decide ((IntKind.wrap .u64 (q027 * x8)) > (IntKind.wrap .u64 ((IntKind.wrap .u64 (4294967296 * rhat26)) + x12)))))) rfl (fun hc => ?_) (fun hc => ?_)
            · replace h := h.1 ((is_or is_dec is_dec).t hc)
              refine w_skip ?_
              refine then_norm ?_
              refine w_block ?_
              refine w_seq ?_
              refine w_run [0, 0, 0] ?_
              refine t_done [(.int .u64 hi0), (.int .u64 lo1), (.int .u64 x6), (.int .u64 0), (.int .u64 0), (.bool ((y2) == 0)), (.bool (decide (y2 ≤ hi0))), (.bool ((hi0) == 0)), (.int .u64 (IntKind.wrap .u64 (r3))), (.int .u64 x10), (.int .u64 x9), (.int .u64 x7), (.int .u64 (IntKind.wrap .u64 (q117 - 1))), (.int .u64 x8), (.int .u64 rhat26), (.int .u64 x11), (.bool ((decide (q117 ≥ 4294967296)) || (decide ((IntKind.wrap .u64 (q117 * x8)) > (IntKind.wrap .u64 ((IntKind.wrap .u64 (4294967296 * rhat18)) + x11)))))), (.bool (decide ((IntKind.wrap .u64 (rhat18 + x7)) ≥ 4294967296))), (.int .u64 x21), (.int .u64 (IntKind.wrap .u64 (q027 - 1))), (.int .u64 x12), (.bool ((decide (q027 ≥ 4294967296)) || (decide ((IntKind.wrap .u64 (q027 * x8)) > (IntKind.wrap .u64 ((IntKind.wrap .u64 (4294967296 * rhat26)) + x12)))))), d29] H4 (by kernel_rfl) ?_
              refine then_norm ?_
              refine w_seq ?_
              refine w_run [0, 0, 0, 0] ?_
              refine t_done [(.int .u64 hi0), (.int .u64 lo1), (.int .u64 x6), (.int .u64 0), (.int .u64 0), (.bool ((y2) == 0)), (.bool (decide (y2 ≤ hi0))), (.bool ((hi0) == 0)), (.int .u64 (IntKind.wrap .u64 (r3))), (.int .u64 x10), (.int .u64 x9), (.int .u64 x7), (.int .u64 (IntKind.wrap .u64 (q117 - 1))), (.int .u64 x8), (.int .u64 (IntKind.wrap .u64 (rhat26 + x7))), (.int .u64 x11), (.bool ((decide (q117 ≥ 4294967296)) || (decide ((IntKind.wrap .u64 (q117 * x8)) > (IntKind.wrap .u64 ((IntKind.wrap .u64 (4294967296 * rhat18)) + x11)))))), (.bool (decide ((IntKind.wrap .u64 (rhat18 + x7)) ≥ 4294967296))), (.int .u64 x21), (.int .u64 (IntKind.wrap .u64 (q027 - 1))), (.int .u64 x12), (.bool ((decide (q027 ≥ 4294967296)) || (decide ((IntKind.wrap .u64 (q027 * x8)) > (IntKind.wrap .u64 ((IntKind.wrap .u64 (4294967296 * rhat26)) + x12)))))), d29] H4 (by kernel_rfl) ?_
              refine then_norm ?_
              refine w_seq ?_
              refine w_run [0, 0] ?_
              refine t_done [(.int .u64 hi0), (.int .u64 lo1), (.int .u64 x6), (.int .u64 0), (.int .u64 0), (.bool ((y2) == 0)), (.bool (decide (y2 ≤ hi0))), (.bool ((hi0) == 0)), (.int .u64 (IntKind.wrap .u64 (r3))), (.int .u64 x10), (.int .u64 x9), (.int .u64 x7), (.int .u64 (IntKind.wrap .u64 (q117 - 1))), (.int .u64 x8), (.int .u64 (IntKind.wrap .u64 (rhat26 + x7))), (.int .u64 x11), (.bool ((decide (q117 ≥ 4294967296)) || (decide ((IntKind.wrap .u64 (q117 * x8)) > (IntKind.wrap .u64 ((IntKind.wrap .u64 (4294967296 * rhat18)) + x11)))))), (.bool (decide ((IntKind.wrap .u64 (rhat18 + x7)) ≥ 4294967296))), (.int .u64 x21), (.int .u64 (IntKind.wrap .u64 (q027 - 1))), (.int .u64 x12), (.bool ((decide (q027 ≥ 4294967296)) || (decide ((IntKind.wrap .u64 (q027 * x8)) > (IntKind.wrap .u64 ((IntKind.wrap .u64 (4294967296 * rhat26)) + x12)))))), (.bool (decide ((IntKind.wrap .u64 (rhat26 + x7)) ≥ 4294967296)))] H4 (by kernel_rfl) ?_
              refine then_norm ?_
              refine w_cond (t := (decide ((IntKind.wrap .u64 (rhat26 + x7)) ≥ 4294967296))) rfl (fun hc => ?_) (fun hc => ?_)
              · replace h := h.1 (is_dec.t hc)
                refine w_exit ?_
                refine block_past (by decide) ?_
                refine loop_exit ?_
                refine block_exit ?_
                refine then_norm ?_
                refine w_seq ?_
                refine w_run [0, 0, 0, 0, 0, 0, 0, 0, 0, 0, 0, 0, 0, 1, 0, 0] ?_
                obtain ⟨hq, h⟩ := h
                refine t_shr true .no .u64 .u64 (IntKind.wrap .u64 ((IntKind.wrap .u64 ((IntKind.wrap .u64 (x21 * 4294967296)) + x12)) - (IntKind.wrap .u64 ((IntKind.wrap .u64 (q027 - 1)) * x6)))) (IntKind.wrap .u64 (r3)) H4 (by kernel_rfl) hq ?_
                refine t_done [(.int .u64 hi0), (.int .u64 lo1), (.int .u64 x6), (.int .u64 (IntKind.wrap .u64 ((IntKind.wrap .u64 ((IntKind.wrap .u64 (q117 - 1)) * 4294967296)) + (IntKind.wrap .u64 (q027 - 1))))), (.int .u64 (Int.fdiv (IntKind.wrap .u64 ((IntKind.wrap .u64 ((IntKind.wrap .u64 (x21 * 4294967296)) + x12)) - (IntKind.wrap .u64 ((IntKind.wrap .u64 (q027 - 1)) * x6)))) (2 ^ (Min.min (Int.toNat (IntKind.wrap .u64 (r3))) (IntKind.bits .u64))))), (.bool ((y2) == 0)), (.bool (decide (y2 ≤ hi0))), (.bool ((hi0) == 0)), (.int .u64 (IntKind.wrap .u64 (r3))), (.int .u64 x10), (.int .u64 x9), (.int .u64 x7), (.int .u64 (IntKind.wrap .u64 (q117 - 1))), (.int .u64 x8), (.int .u64 (IntKind.wrap .u64 (rhat26 + x7))), (.int .u64 x11), (.bool ((decide (q117 ≥ 4294967296)) || (decide ((IntKind.wrap .u64 (q117 * x8)) > (IntKind.wrap .u64 ((IntKind.wrap .u64 (4294967296 * rhat18)) + x11)))))), (.bool (decide ((IntKind.wrap .u64 (rhat18 + x7)) ≥ 4294967296))), (.int .u64 x21), (.int .u64 (IntKind.wrap .u64 (q027 - 1))), (.int .u64 x12), (.bool ((decide (q027 ≥ 4294967296)) || (decide ((IntKind.wrap .u64 (q027 * x8)) > (IntKind.wrap .u64 ((IntKind.wrap .u64 (4294967296 * rhat26)) + x12)))))), (.bool (decide ((IntKind.wrap .u64 (rhat26 + x7)) ≥ 4294967296)))] H4 (by kernel_rfl) ?_
                generalize hx30 : (IntKind.wrap .u64 ((IntKind.wrap .u64 ((IntKind.wrap .u64 (q117 - 1)) * 4294967296)) + (IntKind.wrap .u64 (q027 - 1)))) = x30 at h ⊢
                replace h := h x30 rfl
                generalize hx31 : (Int.fdiv (IntKind.wrap .u64 ((IntKind.wrap .u64 ((IntKind.wrap .u64 (x21 * 4294967296)) + x12)) - (IntKind.wrap .u64 ((IntKind.wrap .u64 (q027 - 1)) * x6)))) (2 ^ (Min.min (Int.toNat (IntKind.wrap .u64 (r3))) (IntKind.bits .u64)))) = x31 at h ⊢
                replace h := h x31 rfl
                refine then_norm ?_
                refine w_ret ?_
                exact body_ret (vs := [(.int .u64 x30), (.int .u64 x31)]) _ (by kernel_rfl) rfl h
              · replace h := h.2 (is_dec.f hc)
                refine w_skip ?_
                refine block_norm ?_
                obtain ⟨m', hm, h⟩ := h
                refine loop_norm ⟨m', hm, _, _, _, _, rfl, rfl, h⟩
            · replace h := h.2 ((is_or is_dec is_dec).f hc)
              refine w_exit ?_
              refine then_exit ?_
              refine loop_exit ?_
              refine block_exit ?_
              refine then_norm ?_
              refine w_seq ?_
              refine w_run [0, 0, 0, 0, 0, 0, 0, 0, 0, 0, 0, 0, 0, 1, 0, 0] ?_
              obtain ⟨hq, h⟩ := h
              refine t_shr true .no .u64 .u64 (IntKind.wrap .u64 ((IntKind.wrap .u64 ((IntKind.wrap .u64 (x21 * 4294967296)) + x12)) - (IntKind.wrap .u64 (q027 * x6)))) (IntKind.wrap .u64 (r3)) H4 (by kernel_rfl) hq ?_
              refine t_done [(.int .u64 hi0), (.int .u64 lo1), (.int .u64 x6), (.int .u64 (IntKind.wrap .u64 ((IntKind.wrap .u64 ((IntKind.wrap .u64 (q117 - 1)) * 4294967296)) + q027))), (.int .u64 (Int.fdiv (IntKind.wrap .u64 ((IntKind.wrap .u64 ((IntKind.wrap .u64 (x21 * 4294967296)) + x12)) - (IntKind.wrap .u64 (q027 * x6)))) (2 ^ (Min.min (Int.toNat (IntKind.wrap .u64 (r3))) (IntKind.bits .u64))))), (.bool ((y2) == 0)), (.bool (decide (y2 ≤ hi0))), (.bool ((hi0) == 0)), (.int .u64 (IntKind.wrap .u64 (r3))), (.int .u64 x10), (.int .u64 x9), (.int .u64 x7), (.int .u64 (IntKind.wrap .u64 (q117 - 1))), (.int .u64 x8), (.int .u64 rhat26), (.int .u64 x11), (.bool ((decide (q117 ≥ 4294967296)) || (decide ((IntKind.wrap .u64 (q117 * x8)) > (IntKind.wrap .u64 ((IntKind.wrap .u64 (4294967296 * rhat18)) + x11)))))), (.bool (decide ((IntKind.wrap .u64 (rhat18 + x7)) ≥ 4294967296))), (.int .u64 x21), (.int .u64 q027), (.int .u64 x12), (.bool ((decide (q027 ≥ 4294967296)) || (decide ((IntKind.wrap .u64 (q027 * x8)) > (IntKind.wrap .u64 ((IntKind.wrap .u64 (4294967296 * rhat26)) + x12)))))), d29] H4 (by kernel_rfl) ?_
              generalize hx33 : (IntKind.wrap .u64 ((IntKind.wrap .u64 ((IntKind.wrap .u64 (q117 - 1)) * 4294967296)) + q027)) = x33 at h ⊢
              replace h := h x33 rfl
              generalize hx34 : (Int.fdiv (IntKind.wrap .u64 ((IntKind.wrap .u64 ((IntKind.wrap .u64 (x21 * 4294967296)) + x12)) - (IntKind.wrap .u64 (q027 * x6)))) (2 ^ (Min.min (Int.toNat (IntKind.wrap .u64 (r3))) (IntKind.bits .u64)))) = x34 at h ⊢
              replace h := h x34 rfl
              refine then_norm ?_
              refine w_ret ?_
              exact body_ret (vs := [(.int .u64 x33), (.int .u64 x34)]) _ (by kernel_rfl) rfl h
          · replace h := h.2 (is_dec.f hc)
            refine w_skip ?_
            refine block_norm ?_
            obtain ⟨m', hm, h⟩ := h
            refine loop_norm ⟨m', hm, _, _, _, _, rfl, rfl, h⟩
        · replace h := h.2 ((is_or is_dec is_dec).f hc)
          refine w_exit ?_
          refine then_exit ?_
          refine loop_exit ?_
          refine block_exit ?_
          refine then_norm ?_
          refine w_seq ?_
          refine w_run [0, 0, 0, 0, 0, 0, 0, 0, 0] ?_
          refine t_done [(.int .u64 hi0), (.int .u64 lo1), (.int .u64 x6), (.int .u64 0), (.int .u64 0), (.bool ((y2) == 0)), (.bool (decide (y2 ≤ hi0))), (.bool ((hi0) == 0)), (.int .u64 (IntKind.wrap .u64 (r3))), (.int .u64 x10), (.int .u64 x9), (.int .u64 x7), (.int .u64 q117), (.int .u64 x8), (.int .u64 rhat18), (.int .u64 x11), (.bool ((decide (q117 ≥ 4294967296)) || (decide ((IntKind.wrap .u64 (q117 * x8)) > (IntKind.wrap .u64 ((IntKind.wrap .u64 (4294967296 * rhat18)) + x11)))))), d20, (.int .u64 (IntKind.wrap .u64 ((IntKind.wrap .u64 ((IntKind.wrap .u64 (x9 * 4294967296)) + x11)) - (IntKind.wrap .u64 (q117 * x6))))), .undef, (.int .u64 x12), .undef, .undef] H4 (by kernel_rfl) ?_
          generalize hx36 : (IntKind.wrap .u64 ((IntKind.wrap .u64 ((IntKind.wrap .u64 (x9 * 4294967296)) + x11)) - (IntKind.wrap .u64 (q117 * x6)))) = x36 at h ⊢
          replace h := h x36 rfl
          refine then_norm ?_
          refine w_seq ?_
          refine w_run [0, 0, 1, 0] ?_
          obtain ⟨hq, h⟩ := h
          refine t_quo true .no .u64 x36 x7 H4 (by kernel_rfl) hq ?_
          refine t_done [(.int .u64 hi0), (.int .u64 lo1), (.int .u64 x6), (.int .u64 0), (.int .u64 0), (.bool ((y2) == 0)), (.bool (decide (y2 ≤ hi0))), (.bool ((hi0) == 0)), (.int .u64 (IntKind.wrap .u64 (r3))), (.int .u64 x10), (.int .u64 x9), (.int .u64 x7), (.int .u64 q117), (.int .u64 x8), (.int .u64 rhat18), (.int .u64 x11), (.bool ((decide (q117 ≥ 4294967296)) || (decide ((IntKind.wrap .u64 (q117 * x8)) > (IntKind.wrap .u64 ((IntKind.wrap .u64 (4294967296 * rhat18)) + x11)))))), d20, (.int .u64 x36), (.int .u64 (IntKind.wrap .u64 (Int.tdiv x36 x7))), (.int .u64 x12), .undef, .undef] H4 (by kernel_rfl) ?_
          refine then_norm ?_
          refine w_seq ?_
          refine w_run [0, 0, 0, 0, 0, 0] ?_
          refine t_done [(.int .u64 hi0), (.int .u64 lo1), (.int .u64 x6), (.int .u64 0), (.int .u64 0), (.bool ((y2) == 0)), (.bool (decide (y2 ≤ hi0))), (.bool ((hi0) == 0)), (.int .u64 (IntKind.wrap .u64 (r3))), (.int .u64 x10), (.int .u64 x9), (.int .u64 x7), (.int .u64 q117), (.int .u64 x8), (.int .u64 (IntKind.wrap .u64 (x36 - (IntKind.wrap .u64 ((IntKind.wrap .u64 (Int.tdiv x36 x7)) * x7))))), (.int .u64 x11), (.bool ((decide (q117 ≥ 4294967296)) || (decide ((IntKind.wrap .u64 (q117 * x8)) > (IntKind.wrap .u64 ((IntKind.wrap .u64 (4294967296 * rhat18)) + x11)))))), d20, (.int .u64 x36), (.int .u64 (IntKind.wrap .u64 (Int.tdiv x36 x7))), (.int .u64 x12), .undef, .undef] H4 (by kernel_rfl) ?_
          generalize hx37 : (IntKind.wrap .u64 (x36 - (IntKind.wrap .u64 ((IntKind.wrap .u64 (Int.tdiv x36 x7)) * x7)))) = x37 at h ⊢
          replace h := h x37 rfl
          refine then_norm ?_
          refine w_seq ?_
          refine w_block ?_
          obtain ⟨J38, k39, h0, h⟩ := h
          refine w_loop (I := fun mI EI HI => ∃ (rhat41 : Int) (q042 : Int) (d43 : AV) (d44 : AV), EI = [(.int .u64 hi0), (.int .u64 lo1), (.int .u64 x6), (.int .u64 0), (.int .u64 0), (.bool ((y2) == 0)), (.bool (decide (y2 ≤ hi0))), (.bool ((hi0) == 0)), (.int .u64 (IntKind.wrap .u64 (r3))), (.int .u64 x10), (.int .u64 x9), (.int .u64 x7), (.int .u64 q117), (.int .u64 x8), (.int .u64 rhat41), (.int .u64 x11), (.bool ((decide (q117 ≥ 4294967296)) || (decide ((IntKind.wrap .u64 (q117 * x8)) > (IntKind.wrap .u64 ((IntKind.wrap .u64 (4294967296 * rhat18)) + x11)))))), d20, (.int .u64 x36), (.int .u64 q042), (.int .u64 x12), d43, d44] ∧ H4 = HI ∧ J38 mI rhat41 q042) ?_ k39 ⟨_, _, _, _, rfl, rfl, h0⟩
          clear h0
          rintro m40 EI HI ⟨rhat41, q042, d43, d44, rfl, rfl, hJ⟩
          replace h := h m40 rhat41 q042  hJ
          clear hJ
          refine w_seq ?_
          refine w_seq ?_
          refine w_run [0, 0, 0, 0, 0, 0, 0, 0, 0, 0, 0, 0] ?_
          refine t_done [(.int .u64 hi0), (.int .u64 lo1), (.int .u64 x6), (.int .u64 0), (.int .u64 0), (.bool ((y2) == 0)), (.bool (decide (y2 ≤ hi0))), (.bool ((hi0) == 0)), (.int .u64 (IntKind.wrap .u64 (r3))), (.int .u64 x10), (.int .u64 x9), (.int .u64 x7), (.int .u64 q117), (.int .u64 x8), (.int .u64 rhat41), (.int .u64 x11), (.bool ((decide (q117 ≥ 4294967296)) || (decide ((IntKind.wrap .u64 (q117 * x8)) > (IntKind.wrap .u64 ((IntKind.wrap .u64 (4294967296 * rhat18)) + x11)))))), d20, (.int .u64 x36), (.int .u64 q042), (.int .u64 x12), (.bool ((decide (q042 ≥ 4294967296)) || (decide ((IntKind.wrap .u64 (q042 * x8)) > (IntKind.wrap .u64 ((IntKind.wrap .u64 (4294967296 * rhat41)) + x12)))))), d44] H4 (by kernel_rfl) ?_
          refine then_norm ?_
          refine w_cond (t := ((decide (q042 ≥ 4294967296)) || (decide ((IntKind.wrap .u64 (q042 * x8)) > (IntKind.wrap .u64 ((IntKind.wrap .u64 (4294967296 * rhat41)) + x12)))))) rfl (fun hc => ?_) (fun hc => ?_)
          · replace h := h.1 ((is_or is_dec is_dec).t hc)
            refine w_skip ?_
            refine then_norm ?_
            refine w_block ?_
            refine w_seq ?_
            refine w_run [0, 0, 0] ?_
            refine t_done [(.int .u64 hi0), (.int .u64 lo1), (.int .u64 x6), (.int .u64 0), (.int .u64 0), (.bool ((y2) == 0)), (.bool (decide (y2 ≤ hi0))), (.bool ((hi0) == 0)), (.int .u64 (IntKind.wrap .u64 (r3))), (.int .u64 x10), (.int .u64 x9), (.int .u64 x7), (.int .u64 q117), (.int .u64 x8), (.int .u64 rhat41), (.int .u64 x11), (.bool ((decide (q117 ≥ 4294967296)) || (decide ((IntKind.wrap .u64 (q117 * x8)) > (IntKind.wrap .u64 ((IntKind.wrap .u64 (4294967296 * rhat18)) + x11)))))), d20, (.int .u64 x36), (.int .u64 (IntKind.wrap .u64 (q042 - 1))), (.int .u64 x12), (.bool ((decide (q042 ≥ 4294967296)) || (decide ((IntKind.wrap .u64 (q042 * x8)) > (IntKind.wrap .u64 ((IntKind.wrap .u64 (4294967296 * rhat41)) + x12)))))), d44] H4 (by kernel_rfl) ?_
            refine then_norm ?_
            refine w_seq ?_
            refine w_run [0, 0, 0, 0] ?_
            refine t_done [(.int .u64 hi0), (.int .u64 lo1), (.int .u64 x6), (.int .u64 0), (.int .u64 0), (.bool ((y2) == 0)), (.bool (decide (y2 ≤ hi0))), (.bool ((hi0) == 0)), (.int .u64 (IntKind.wrap .u64 (r3))), (.int .u64 x10), (.int .u64 x9), (.int .u64 x7), (.int .u64 q117), (.int .u64 x8), (.int .u64 (IntKind.wrap .u64 (rhat41 + x7))), (.int .u64 x11), (.bool ((decide (q117 ≥ 4294967296)) || (decide ((IntKind.wrap .u64 (q117 * x8)) > (IntKind.wrap .u64 ((IntKind.wrap .u64 (4294967296 * rhat18)) + x11)))))), d20, (.int .u64 x36), (.int .u64 (IntKind.wrap .u64 (q042 - 1))), (.int .u64 x12), (.bool ((decide (q042 ≥ 4294967296)) || (decide ((IntKind.wrap .u64 (q042 * x8)) > (IntKind.wrap .u64 ((IntKind.wrap .u64 (4294967296 * rhat41)) + x12)))))), d44] H4 (by kernel_rfl) ?_
            refine then_norm ?_
            refine w_seq ?_
            refine w_run [0, 0] ?_
            refine t_done [(.int .u64 hi0), (.int .u64 lo1), (.int .u64 x6), (.int .u64 0), (.int .u64 0), (.bool ((y2) == 0)), (.bool (decide (y2 ≤ hi0))), (.bool ((hi0) == 0)), (.int .u64 (IntKind.wrap .u64 (r3))), (.int .u64 x10), (.int .u64 x9), (.int .u64 x7), (.int .u64 q117), (.int .u64 x8), (.int .u64 (IntKind.wrap .u64 (rhat41 + x7))), (.int .u64 x11), (.bool ((decide (q117 ≥ 4294967296)) || (decide ((IntKind.wrap .u64 (q117 * x8)) > (IntKind.wrap .u64 ((IntKind.wrap .u64 (4294967296 * rhat18)) + x11)))))), d20, (.int .u64 x36), (.int .u64 (IntKind.wrap .u64 (q042 - 1))), (.int .u64 x12), (.bool ((decide (q042 ≥ 4294967296)) || (decide ((IntKind.wrap .u64 (q042 * x8)) > (IntKind.wrap .u64 ((IntKind.wrap .u64 (4294967296 * rhat41)) + x12)))))), (.bool (decide ((IntKind.wrap .u64 (rhat41 + x7)) ≥ 4294967296)))] H4 (by kernel_rfl) ?_
            refine then_norm ?_
            refine w_cond (t := (decide ((IntKind.wrap .u64 (rhat41 + x7)) ≥ 4294967296))) rfl (fun hc => ?_) (fun hc => ?_)
            · replace h := h.1 (is_dec.t hc)
              refine w_exit ?_
              refine block_past (by decide) ?_
              refine loop_exit ?_
              refine block_exit ?_
              refine then_norm ?_
              refine w_seq ?_
              refine w_run [0, 0, 0, 0, 0, 0, 0, 0, 0, 0, 0, 0, 0, 1, 0, 0] ?_
              obtain ⟨hq, h⟩ := h
              refine t_shr true .no .u64 .u64 (IntKind.wrap .u64 ((IntKind.wrap .u64 ((IntKind.wrap .u64 (x36 * 4294967296)) + x12)) - (IntKind.wrap .u64 ((IntKind.wrap .u64 (q042 - 1)) * x6)))) (IntKind.wrap .u64 (r3)) H4 (by kernel_rfl) hq ?_
              refine t_done [(.int .u64 hi0), (.int .u64 lo1), (.int .u64 x6), (.int .u64 (IntKind.wrap .u64 ((IntKind.wrap .u64 (q117 * 4294967296)) + (IntKind.wrap .u64 (q042 - 1))))), (.int .u64 (Int.fdiv (IntKind.wrap .u64 ((IntKind.wrap .u64 ((IntKind.wrap .u64 (x36 * 4294967296)) + x12)) - (IntKind.wrap .u64 ((IntKind.wrap .u64 (q042 - 1)) * x6)))) (2 ^ (Min.min (Int.toNat (IntKind.wrap .u64 (r3))) (IntKind.bits .u64))))), (.bool ((y2) == 0)), (.bool (decide (y2 ≤ hi0))), (.bool ((hi0) == 0)), (.int .u64 (IntKind.wrap .u64 (r3))), (.int .u64 x10), (.int .u64 x9), (.int .u64 x7), (.int .u64 q117), (.int .u64 x8), (.int .u64 (IntKind.wrap .u64 (rhat41 + x7))), (.int .u64 x11), (.bool ((decide (q117 ≥ 4294967296)) || (decide ((IntKind.wrap .u64 (q117 * x8)) > (IntKind.wrap .u64 ((IntKind.wrap .u64 (4294967296 * rhat18)) + x11)))))), d20, (.int .u64 x36), (.int .u64 (IntKind.wrap .u64 (q042 - 1))), (.int .u64 x12), (.bool ((decide (q042 ≥ 4294967296)) || (decide ((IntKind.wrap .u64 (q042 * x8)) > (IntKind.wrap .u64 ((IntKind.wrap .u64 (4294967296 * rhat41)) + x12)))))), (.bool (decide ((IntKind.wrap .u64 (rhat41 + x7)) ≥ 4294967296)))] H4 (by kernel_rfl) ?_
              generalize hx45 : (IntKind.wrap .u64 ((IntKind.wrap .u64 (q117 * 4294967296)) + (IntKind.wrap .u64 (q042 - 1)))) = x45 at h ⊢
              replace h := h x45 rfl
              generalize hx46 : (Int.fdiv (IntKind.wrap .u64 ((IntKind.wrap .u64 ((IntKind.wrap .u64 (x36 * 4294967296)) + x12)) - (IntKind.wrap .u64 ((IntKind.wrap .u64 (q042 - 1)) * x6)))) (2 ^ (Min.min (Int.toNat (IntKind.wrap .u64 (r3))) (IntKind.bits .u64)))) = x46 at h ⊢
              replace h := h x46 rfl
              refine then_norm ?_
              refine w_ret ?_
              exact body_ret (vs := [(.int .u64 x45), (.int .u64 x46)]) _ (by kernel_rfl) rfl h
            · replace h := h.2 (is_dec.f hc)
              refine w_skip ?_
              refine block_norm ?_
              obtain ⟨m', hm, h⟩ := h
              refine loop_norm ⟨m', hm, _, _, _, _, rfl, rfl, h⟩
          · replace h := h.2 ((is_or is_dec is_dec).f hc)
            refine w_exit ?_
            refine then_exit ?_
            refine loop_exit ?_
            refine block_exit ?_
            refine then_norm ?_
            refine w_seq ?_
            refine w_run [0, 0, 0, 0, 0, 0, 0, 0, 0, 0, 0, 0, 0, 1, 0, 0] ?_
            obtain ⟨hq, h⟩ := h
            refine t_shr true .no .u64 .u64 (IntKind.wrap .u64 ((IntKind.wrap .u64 ((IntKind.wrap .u64 (x36 * 4294967296)) + x12)) - (IntKind.wrap .u64 (q042 * x6)))) (IntKind.wrap .u64 (r3)) H4 (by kernel_rfl) hq ?_
            refine t_done [(.int .u64 hi0), (.int .u64 lo1), (.int .u64 x6), (.int .u64 (IntKind.wrap .u64 ((IntKind.wrap .u64 (q117 * 4294967296)) + q042))), (.int .u64 (Int.fdiv (IntKind.wrap .u64 ((IntKind.wrap .u64 ((IntKind.wrap .u64 (x36 * 4294967296)) + x12)) - (IntKind.wrap .u64 (q042 * x6)))) (2 ^ (Min.min (Int.toNat (IntKind.wrap .u64 (r3))) (IntKind.bits .u64))))), (.bool ((y2) == 0)), (.bool (decide (y2 ≤ hi0))), (.bool ((hi0) == 0)), (.int .u64 (IntKind.wrap .u64 (r3))), (.int .u64 x10), (.int .u64 x9), (.int .u64 x7), (.int .u64 q117), (.int .u64 x8), (.int .u64 rhat41), (.int .u64 x11), (.bool ((decide (q117 ≥ 4294967296)) || (decide ((IntKind.wrap .u64 (q117 * x8)) > (IntKind.wrap .u64 ((IntKind.wrap .u64 (4294967296 * rhat18)) + x11)))))), d20, (.int .u64 x36), (.int .u64 q042), (.int .u64 x12), (.bool ((decide (q042 ≥ 4294967296)) || (decide ((IntKind.wrap .u64 (q042 * x8)) > (IntKind.wrap .u64 ((IntKind.wrap .u64 (4294967296 * rhat41)) + x12)))))), d44] H4 (by kernel_rfl) ?_
            generalize hx48 : (IntKind.wrap .u64 ((IntKind.wrap .u64 (q117 * 4294967296)) + q042)) = x48 at h ⊢
            replace h := h x48 rfl
            generalize hx49 : (Int.fdiv (IntKind.wrap .u64 ((IntKind.wrap .u64 ((IntKind.wrap .u64 (x36 * 4294967296)) + x12)) - (IntKind.wrap .u64 (q042 * x6)))) (2 ^ (Min.min (Int.toNat (IntKind.wrap .u64 (r3))) (IntKind.bits .u64)))) = x49 at h ⊢
            replace h := h x49 rfl
            refine then_norm ?_
            refine w_ret ?_
            exact body_ret (vs := [(.int .u64 x48), (.int .u64 x49)]) _ (by kernel_rfl) rfl h

def rf_mathbits_Len64 : RFunc := ⟨1, 5, [.var 1],
 ((.seq (.ops [⟨.move (.k (.int .i64 0)), none, (some 1), true⟩])
 ((.seq ((.seq (.ops [⟨.move (.var 0), none, none, true⟩, ⟨.bin .geq .no (.loc 0) (.k (.int .u64 4294967296)), none, (some 2), true⟩])
 (.cond (.var 2) ((.seq (.ops [⟨.move (.var 0), none, none, true⟩, ⟨.bin .shr .no (.loc 0) (.k (.int .u64 32)), none, none, true⟩, ⟨.move (.loc 1), none, (some 0), true⟩])
 (.ops [⟨.move (.k (.int .i64 32)), none, (some 1), true⟩]))) (.skip))))
 ((.seq ((.seq (.ops [⟨.move (.var 0), none, none, true⟩, ⟨.bin .geq .no (.loc 0) (.k (.int .u64 65536)), none, (some 3), true⟩])
 (.cond (.var 3) ((.seq (.ops [⟨.move (.var 0), none, none, true⟩, ⟨.bin .shr .no (.loc 0) (.k (.int .u64 16)), none, none, true⟩, ⟨.move (.loc 1), none, (some 0), true⟩])
 (.ops [⟨.move (.var 1), none, none, true⟩, ⟨.bin .add .no (.loc 0) (.k (.int .i64 16)), none, none, true⟩, ⟨.move (.loc 1), none, (some 1), true⟩]))) (.skip))))
 ((.seq ((.seq (.ops [⟨.move (.var 0), none, none, true⟩, ⟨.bin .geq .no (.loc 0) (.k (.int .u64 256)), none, (some 4), true⟩])
 (.cond (.var 4) ((.seq (.ops [⟨.move (.var 0), none, none, true⟩, ⟨.bin .shr .no (.loc 0) (.k (.int .u64 8)), none, none, true⟩, ⟨.move (.loc 1), none, (some 0), true⟩])
 (.ops [⟨.move (.var 1), none, none, true⟩, ⟨.bin .add .no (.loc 0) (.k (.int .i64 8)), none, none, true⟩, ⟨.move (.loc 1), none, (some 1), true⟩]))) (.skip))))
 ((.seq (.ops [⟨.move (.var 1), none, none, true⟩, ⟨.move (.var 0), none, none, true⟩, ⟨.convInt .u8 (.loc 1), none, none, true⟩, ⟨.indexStr (.k (.str ⟨#[0, 1, 2, 2, 3, 3, 3, 3, 4, 4, 4, 4, 4, 4, 4, 4, 5, 5, 5, 5, 5, 5, 5, 5, 5, 5, 5, 5, 5, 5, 5, 5, 6, 6, 6, 6, 6, 6, 6, 6, 6, 6, 6, 6, 6, 6, 6, 6, 6, 6, 6, 6, 6, 6, 6, 6, 6, 6, 6, 6, 6, 6, 6, 6, 7, 7, 7, 7, 7, 7, 7, 7, 7, 7, 7, 7, 7, 7, 7, 7, 7, 7, 7, 7, 7, 7, 7, 7, 7, 7, 7, 7, 7, 7, 7, 7, 7, 7, 7, 7, 7, 7, 7, 7, 7, 7, 7, 7, 7, 7, 7, 7, 7, 7, 7, 7, 7, 7, 7, 7, 7, 7, 7, 7, 7, 7, 7, 7, 8, 8, 8, 8, 8, 8, 8, 8, 8, 8, 8, 8, 8, 8, 8, 8, 8, 8, 8, 8, 8, 8, 8, 8, 8, 8, 8, 8, 8, 8, 8, 8, 8, 8, 8, 8, 8, 8, 8, 8, 8, 8, 8, 8, 8, 8, 8, 8, 8, 8, 8, 8, 8, 8, 8, 8, 8, 8, 8, 8, 8, 8, 8, 8, 8, 8, 8, 8, 8, 8, 8, 8, 8, 8, 8, 8, 8, 8, 8, 8, 8, 8, 8, 8, 8, 8, 8, 8, 8, 8, 8, 8, 8, 8, 8, 8, 8, 8, 8, 8, 8, 8, 8, 8, 8, 8, 8, 8, 8, 8, 8, 8, 8, 8, 8, 8, 8, 8, 8, 8, 8, 8, 8, 8, 8, 8, 8, 8]⟩)) (.loc 2), none, none, true⟩, ⟨.convInt .i64 (.loc 3), none, none, true⟩, ⟨.bin .add .no (.loc 0) (.loc 4), none, none, true⟩, ⟨.move (.loc 5), none, (some 1), true⟩])
 (.ret))))))))))), none⟩
theorem v_mathbits_Len64 {F : Nat → Option RFunc} {me : Nat} (hF : F me = some (rf_mathbits_Len64 )) {fl : Nat} {H : Heap} {Q : AV → Heap → Prop} (x0 : Int)
  (h : ((x0 ≥ 4294967296) → ∀ x1 : Int, x1 = (Int.fdiv x0 (2 ^ (Min.min (Int.toNat 32) (IntKind.bits .u64)))) → ((x1 ≥ 65536) → ∀ x2 : Int, x2 = (Int.fdiv x1 (2 ^ (Min.min (Int.toNat 16) (IntKind.bits .u64)))) → ((x2 ≥ 256) → ∀ x3 : Int, x3 = (Int.fdiv x2 (2 ^ (Min.min (Int.toNat 8) (IntKind.bits .u64)))) → ∃ c4 : Nat, (0 ≤ (IntKind.wrap .u8 (x3)) ∧ (((⟨#[0, 1, 2, 2, 3, 3, 3, 3, 4, 4, 4, 4, 4, 4, 4, 4, 5, 5, 5, 5, 5, 5, 5, 5, 5, 5, 5, 5, 5, 5, 5, 5, 6, 6, 6, 6, 6, 6, 6, 6, 6, 6, 6, 6, 6, 6, 6, 6, 6, 6, 6, 6, 6, 6, 6, 6, 6, 6, 6, 6, 6, 6, 6, 6, 7, 7, 7, 7, 7, 7, 7, 7, 7, 7, 7, 7, 7, 7, 7, 7, 7, 7, 7, 7, 7, 7, 7, 7, 7, 7, 7, 7, 7, 7, 7, 7, 7, 7, 7, 7, 7, 7, 7, 7, 7, 7, 7, 7, 7, 7, 7, 7, 7, 7, 7, 7, 7, 7, 7, 7, 7, 7, 7, 7, 7, 7, 7, 7, 8, 8, 8, 8, 8, 8, 8, 8, 8, 8, 8, 8, 8, 8, 8, 8, 8, 8, 8, 8, 8, 8, 8, 8, 8, 8, 8, 8, 8, 8, 8, 8, 8, 8, 8, 8, 8, 8, 8, 8, 8, 8, 8, 8, 8, 8, 8, 8, 8, 8, 8, 8, 8, 8, 8, 8, 8, 8, 8, 8, 8, 8, 8, 8, 8, 8, 8, 8, 8, 8, 8, 8, 8, 8, 8, 8, 8, 8, 8, 8, 8, 8, 8, 8, 8, 8, 8, 8, 8, 8, 8, 8, 8, 8, 8, 8, 8, 8, 8, 8, 8, 8, 8, 8, 8, 8, 8, 8, 8, 8, 8, 8, 8, 8, 8, 8, 8, 8, 8, 8, 8, 8, 8, 8, 8, 8, 8, 8]⟩ : ByteArray))[Int.toNat (IntKind.wrap .u8 (x3))]?).map UInt8.toNat = some c4) ∧ Q (.int .i64 (IntKind.wrap .i64 ((IntKind.wrap .i64 ((IntKind.wrap .i64 (32 + 16)) + 8)) + (IntKind.wrap .i64 ((c4 : Int)))))) H) ∧ (¬(x2 ≥ 256) → ∃ c5 : Nat, (0 ≤ (IntKind.wrap .u8 (x2)) ∧ (((⟨#[0, 1, 2, 2, 3, 3, 3, 3, 4, 4, 4, 4, 4, 4, 4, 4, 5, 5, 5, 5, 5, 5, 5, 5, 5, 5, 5, 5, 5, 5, 5, 5, 6, 6, 6, 6, 6, 6, 6, 6, 6, 6, 6, 6, 6, 6, 6, 6, 6, 6, 6, 6, 6, 6, 6, 6, 6, 6, 6, 6, 6, 6, 6, 6, 7, 7, 7, 7, 7, 7, 7, 7, 7, 7, 7, 7, 7, 7, 7, 7, 7, 7, 7, 7, 7, 7, 7, 7, 7, 7, 7, 7, 7, 7, 7, 7, 7, 7, 7, 7, 7, 7, 7, 7, 7, 7, 7, 7, 7, 7, 7, 7, 7, 7, 7, 7, 7, 7, 7, 7, 7, 7, 7, 7, 7, 7, 7, 7, 8, 8, 8, 8, 8, 8, 8, 8, 8, 8, 8, 8, 8, 8, 8, 8, 8, 8, 8, 8, 8, 8, 8, 8, 8, 8, 8, 8, 8, 8, 8, 8, 8, 8, 8, 8, 8, 8, 8, 8, 8, 8, 8, 8, 8, 8, 8, 8, 8, 8, 8, 8, 8, 8, 8, 8, 8, 8, 8, 8, 8, 8, 8, 8, 8, 8, 8, 8, 8, 8, 8, 8, 8, 8, 8, 8, 8, 8, 8, 8, 8, 8, 8, 8, 8, 8, 8, 8, 8, 8, 8, 8, 8, 8, 8, 8, 8, 8, 8, 8, 8, 8, 8, 8, 8, 8, 8, 8, 8, 8, 8, 8, 8, 8, 8, 8, 8, 8, 8, 8, 8, 8, 8, 8, 8, 8, 8, 8]⟩ : ByteArray))[Int.toNat (IntKind.wrap .u8 (x2))]?).map UInt8.toNat = some c5) ∧ Q (.int .i64 (IntKind.wrap .i64 ((IntKind.wrap .i64 (32 + 16)) + (IntKind.wrap .i64 ((c5 : Int)))))) H)) ∧ (¬(x1 ≥ 65536) → ((x1 ≥ 256) → ∀ x6 : Int, x6 = (Int.fdiv x1 (2 ^ (Min.min (Int.toNat 8) (IntKind.bits .u64)))) → ∃ c7 : Nat, (0 ≤ (IntKind.wrap .u8 (x6)) ∧ (((⟨#[0, 1, 2, 2, 3, 3, 3, 3, 4, 4, 4, 4, 4, 4, 4, 4, 5, 5, 5, 5, 5, 5, 5, 5, 5, 5, 5, 5, 5, 5, 5, 5, 6, 6, 6, 6, 6, 6, 6, 6, 6, 6, 6, 6, 6, 6, 6, 6, 6, 6, 6, 6, 6, 6, 6, 6, 6, 6, 6, 6, 6, 6, 6, 6, 7, 7, 7, 7, 7, 7, 7, 7, 7, 7, 7, 7, 7, 7, 7, 7, 7, 7, 7, 7, 7, 7, 7, 7, 7, 7, 7, 7, 7, 7, 7, 7, 7, 7, 7, 7, 7, 7, 7, 7, 7, 7, 7, 7, 7, 7, 7, 7, 7, 7, 7, 7, 7, 7, 7, 7, 7, 7, 7, 7, 7, 7, 7, 7, 8, 8, 8, 8, 8, 8, 8, 8, 8, 8, 8, 8, 8, 8, 8, 8, 8, 8, 8, 8, 8, 8, 8, 8, 8, 8, 8, 8, 8, 8, 8, 8, 8, 8, 8, 8, 8, 8, 8, 8, 8, 8, 8, 8, 8, 8, 8, 8, 8, 8, 8, 8, 8, 8, 8, 8, 8, 8, 8, 8, 8, 8, 8, 8, 8, 8, 8, 8, 8, 8, 8, 8, 8, 8, 8, 8, 8, 8, 8, 8, 8, 8, 8, 8, 8, 8, 8, 8, 8, 8, 8, 8, 8, 8, 8, 8, 8, 8, 8, 8, 8, 8, 8, 8, 8, 8, 8, 8, 8, 8, 8, 8, 8, 8, 8, 8, 8, 8, 8, 8, 8, 8, 8, 8, 8, 8, 8, 8]⟩ : ByteArray))[Int.toNat (IntKind.wrap .u8 (x6))]?).map UInt8.toNat = some c7) ∧ Q (.int .i64 (IntKind.wrap .i64 ((IntKind.wrap .i64 (32 + 8)) + (IntKind.wrap .i64 ((c7 : Int)))))) H) ∧ (¬(x1 ≥ 256) → ∃ c8 : Nat, (0 ≤ (IntKind.wrap .u8 (x1)) ∧ (((⟨#[0, 1, 2, 2, 3, 3, 3, 3, 4, 4, 4, 4, 4, 4, 4, 4, 5, 5, 5, 5, 5, 5, 5, 5, 5, 5, 5, 5, 5, 5, 5, 5, 6, 6, 6, 6, 6, 6, 6, 6, 6, 6, 6, 6, 6, 6, 6, 6, 6, 6, 6, 6, 6, 6, 6, 6, 6, 6, 6, 6, 6, 6, 6, 6, 7, 7, 7, 7, 7, 7, 7, 7, 7, 7, 7, 7, 7, 7, 7, 7, 7, 7, 7, 7, 7, 7, 7, 7, 7, 7, 7, 7, 7, 7, 7, 7, 7, 7, 7, 7, 7, 7, 7, 7, 7, 7, 7, 7, 7, 7, 7, 7, 7, 7, 7, 7, 7, 7, 7, 7, 7, 7, 7, 7, 7, 7, 7, 7, 8, 8, 8, 8, 8, 8, 8, 8, 8, 8, 8, 8, 8, 8, 8, 8, 8, 8, 8, 8, 8, 8, 8, 8, 8, 8, 8, 8, 8, 8, 8, 8, 8, 8, 8, 8, 8, 8, 8, 8, 8, 8, 8, 8, 8, 8, 8, 8, 8, 8, 8, 8, 8, 8, 8, 8, 8, 8, 8, 8, 8, 8, 8, 8, 8, 8, 8, 8, 8, 8, 8, 8, 8, 8, 8, 8, 8, 8, 8, 8, 8, 8, 8, 8, 8, 8, 8, 8, 8, 8, 8, 8, 8, 8, 8, 8, 8, 8, 8, 8, 8, 8, 8, 8, 8, 8, 8, 8, 8, 8, 8, 8, 8, 8, 8, 8, 8, 8, 8, 8, 8, 8, 8, 8, 8, 8, 8, 8]⟩ : ByteArray))[Int.toNat (IntKind.wrap .u8 (x1))]?).map UInt8.toNat = some c8) ∧ Q (.int .i64 (IntKind.wrap .i64 (32 + (IntKind.wrap .i64 ((c8 : Int)))))) H))) ∧ (¬(x0 ≥ 4294967296) → ((x0 ≥ 65536) → ∀ x9 : Int, x9 = (Int.fdiv x0 (2 ^ (Min.min (Int.toNat 16) (IntKind.bits .u64)))) → ((x9 ≥ 256) → ∀ x10 : Int, x10 = (Int.fdiv x9 (2 ^ (Min.min (Int.toNat 8) (IntKind.bits .u64)))) → ∃ c11 : Nat, (0 ≤ (IntKind.wrap .u8 (x10)) ∧ (((⟨#[0, 1, 2, 2, 3, 3, 3, 3, 4, 4, 4, 4, 4, 4, 4, 4, 5, 5, 5, 5, 5, 5, 5, 5, 5, 5, 5, 5, 5, 5, 5, 5, 6, 6, 6, 6, 6, 6, 6, 6, 6, 6, 6, 6, 6, 6, 6, 6, 6, 6, 6, 6, 6, 6, 6, 6, 6, 6, 6, 6, 6, 6, 6, 6, 7, 7, 7, 7, 7, 7, 7, 7, 7, 7, 7, 7, 7, 7, 7, 7, 7, 7, 7, 7, 7, 7, 7, 7, 7, 7, 7, 7, 7, 7, 7, 7, 7, 7, 7, 7, 7, 7, 7, 7, 7, 7, 7, 7, 7, 7, 7, 7, 7, 7, 7, 7, 7, 7, 7, 7, 7, 7, 7, 7, 7, 7, 7, 7, 8, 8, 8, 8, 8, 8, 8, 8, 8, 8, 8, 8, 8, 8, 8, 8, 8, 8, 8, 8, 8, 8, 8, 8, 8, 8, 8, 8, 8, 8, 8, 8, 8, 8, 8, 8, 8, 8, 8, 8, 8, 8, 8, 8, 8, 8, 8, 8, 8, 8, 8, 8, 8, 8, 8, 8, 8, 8, 8, 8, 8, 8, 8, 8, 8, 8, 8, 8, 8, 8, 8, 8, 8, 8, 8, 8, 8, 8, 8, 8, 8, 8, 8, 8, 8, 8, 8, 8, 8, 8, 8, 8, 8, 8, 8, 8, 8, 8, 8, 8, 8, 8, 8, 8, 8, 8, 8, 8, 8, 8, 8, 8, 8, 8, 8, 8, 8, 8, 8, 8, 8, 8, 8, 8, 8, 8, 8, 8]⟩ : ByteArray))[Int.toNat (IntKind.wrap .u8 (x10))]?).map UInt8.toNat = some c11) ∧ Q (.int .i64 (IntKind.wrap .i64 ((IntKind.wrap .i64 ((IntKind.wrap .i64 (0 + 16)) + 8)) + (IntKind.wrap .i64 ((c11 : Int)))))) H) ∧ (¬(x9 ≥ 256) → ∃ c12 : Nat, (0 ≤ (IntKind.wrap .u8 (x9)) ∧ (((⟨#[0, 1, 2, 2, 3, 3, 3, 3, 4, 4, 4, 4, 4, 4, 4, 4, 5, 5, 5, 5, 5, 5, 5, 5, 5, 5, 5, 5, 5, 5, 5, 5, 6, 6, 6, 6, 6, 6, 6, 6, 6, 6, 6, 6, 6, 6, 6, 6, 6, 6, 6, 6, 6, 6, 6, 6, 6, 6, 6, 6, 6, 6, 6, 6, 7, 7, 7, 7, 7, 7, 7, 7, 7, 7, 7, 7, 7, 7, 7, 7, 7, 7, 7, 7, 7, 7, 7, 7, 7, 7, 7, 7, 7, 7, 7, 7, 7, 7, 7, 7, 7, 7, 7, 7, 7, 7, 7, 7, 7, 7, 7, 7, 7, 7, 7, 7, 7, 7, 7, 7, 7, 7, 7, 7, 7, 7, 7, 7, 8, 8, 8, 8, 8, 8, 8, 8, 8, 8, 8, 8, 8, 8, 8, 8, 8, 8, 8, 8, 8, 8, 8, 8, 8, 8, 8, 8, 8, 8, 8, 8, 8, 8, 8, 8, 8, 8, 8, 8, 8, 8, 8, 8, 8, 8, 8, 8, 8, 8, 8, 8, 8, 8, 8, 8, 8, 8, 8, 8, 8, 8, 8, 8, 8, 8, 8, 8, 8, 8, 8, 8, 8, 8, 8, 8, 8, 8, 8, 8, 8, 8, 8, 8, 8, 8, 8, 8, 8, 8, 8, 8, 8, 8, 8, 8, 8, 8, 8, 8, 8, 8, 8, 8, 8, 8, 8, 8, 8, 8, 8, 8, 8, 8, 8, 8, 8, 8, 8, 8, 8, 8, 8, 8, 8, 8, 8, 8]⟩ : ByteArray))[Int.toNat (IntKind.wrap .u8 (x9))]?).map UInt8.toNat = some c12) ∧ Q (.int .i64 (IntKind.wrap .i64 ((IntKind.wrap .i64 (0 + 16)) + (IntKind.wrap .i64 ((c12 : Int)))))) H)) ∧ (¬(x0 ≥ 65536) → ((x0 ≥ 256) → ∀ x13 : Int, x13 = (Int.fdiv x0 (2 ^ (Min.min (Int.toNat 8) (IntKind.bits .u64)))) → ∃ c14 : Nat, (0 ≤ (IntKind.wrap .u8 (x13)) ∧ (((⟨#[0, 1, 2, 2, 3, 3, 3, 3, 4, 4, 4, 4, 4, 4, 4, 4, 5, 5, 5, 5, 5, 5, 5, 5, 5, 5, 5, 5, 5, 5, 5, 5, 6, 6, 6, 6, 6, 6, 6, 6, 6, 6, 6, 6, 6, 6, 6, 6, 6, 6, 6, 6, 6, 6, 6, 6, 6, 6, 6, 6, 6, 6, 6, 6, 7, 7, 7, 7, 7, 7, 7, 7, 7, 7, 7, 7, 7, 7, 7, 7, 7, 7, 7, 7, 7, 7, 7, 7, 7, 7, 7, 7, 7, 7, 7, 7, 7, 7, 7, 7, 7, 7, 7, 7, 7, 7, 7, 7, 7, 7, 7, 7, 7, 7, 7, 7, 7, 7, 7, 7, 7, 7, 7, 7, 7, 7, 7, 7, 8, 8, 8, 8, 8, 8, 8, 8, 8, 8, 8, 8, 8, 8, 8, 8, 8, 8, 8, 8, 8, 8, 8, 8, 8, 8, 8, 8, 8, 8, 8, 8, 8, 8, 8, 8, 8, 8, 8, 8, 8, 8, 8, 8, 8, 8, 8, 8, 8, 8, 8, 8, 8, 8, 8, 8, 8, 8, 8, 8, 8, 8, 8, 8, 8, 8, 8, 8, 8, 8, 8, 8, 8, 8, 8, 8, 8, 8, 8, 8, 8, 8, 8, 8, 8, 8, 8, 8, 8, 8, 8, 8, 8, 8, 8, 8, 8, 8, 8, 8, 8, 8, 8, 8, 8, 8, 8, 8, 8, 8, 8, 8, 8, 8, 8, 8, 8, 8, 8, 8, 8, 8, 8, 8, 8, 8, 8, 8]⟩ : ByteArray))[Int.toNat (IntKind.wrap .u8 (x13))]?).map UInt8.toNat = some c14) ∧ Q (.int .i64 (IntKind.wrap .i64 ((IntKind.wrap .i64 (0 + 8)) + (IntKind.wrap .i64 ((c14 : Int)))))) H) ∧ (¬(x0 ≥ 256) → ∃ c15 : Nat, (0 ≤ (IntKind.wrap .u8 (x0)) ∧ (((⟨#[0, 1, 2, 2, 3, 3, 3, 3, 4, 4, 4, 4, 4, 4, 4, 4, 5, 5, 5, 5, 5, 5, 5, 5, 5, 5, 5, 5, 5, 5, 5, 5, 6, 6, 6, 6, 6, 6, 6, 6, 6, 6, 6, 6, 6, 6, 6, 6, 6, 6, 6, 6, 6, 6, 6, 6, 6, 6, 6, 6, 6, 6, 6, 6, 7, 7, 7, 7, 7, 7, 7, 7, 7, 7, 7, 7, 7, 7, 7, 7, 7, 7, 7, 7, 7, 7, 7, 7, 7, 7, 7, 7, 7, 7, 7, 7, 7, 7, 7, 7, 7, 7, 7, 7, 7, 7, 7, 7, 7, 7, 7, 7, 7, 7, 7, 7, 7, 7, 7, 7, 7, 7, 7, 7, 7, 7, 7, 7, 8, 8, 8, 8, 8, 8, 8, 8, 8, 8, 8, 8, 8, 8, 8, 8, 8, 8, 8, 8, 8, 8, 8, 8, 8, 8, 8, 8, 8, 8, 8, 8, 8, 8, 8, 8, 8, 8, 8, 8, 8, 8, 8, 8, 8, 8, 8, 8, 8, 8, 8, 8, 8, 8, 8, 8, 8, 8, 8, 8, 8, 8, 8, 8, 8, 8, 8, 8, 8, 8, 8, 8, 8, 8, 8, 8, 8, 8, 8, 8, 8, 8, 8, 8, 8, 8, 8, 8, 8, 8, 8, 8, 8, 8, 8, 8, 8, 8, 8, 8, 8, 8, 8, 8, 8, 8, 8, 8, 8, 8, 8, 8, 8, 8, 8, 8, 8, 8, 8, 8, 8, 8, 8, 8, 8, 8, 8, 8]⟩ : ByteArray))[Int.toNat (IntKind.wrap .u8 (x0))]?).map UInt8.toNat = some c15) ∧ Q (.int .i64 (IntKind.wrap .i64 (0 + (IntKind.wrap .i64 ((c15 : Int)))))) H)))) : Ret F fl me [(.int .u64 x0)] H Q := by
  refine ret_intro hF rfl ?_
  refine w_seq ?_
  refine w_run [0] ?_
  refine t_done [(.int .u64 x0), (.int .i64 0), .undef, .undef, .undef] H (by kernel_rfl) ?_
  refine then_norm ?_
  refine w_seq ?_
  refine w_seq ?_
  refine w_run [0, 0] ?_
  refine t_done [(.int .u64 x0), (.int .i64 0), (.bool (decide (x0 ≥ 4294967296))), .undef, .undef] H (by kernel_rfl) ?_
  refine then_norm ?_
  refine w_cond (t := (decide (x0 ≥ 4294967296))) rfl (fun hc => ?_) (fun hc => ?_)
  · replace h := h.1 (is_dec.t hc)
    refine w_seq ?_
    refine w_run [0, 1, 0] ?_
    refine t_shr true .no .u64 .u64 x0 32 H (by kernel_rfl) (by decide) ?_
    refine t_done [(.int .u64 (Int.fdiv x0 (2 ^ (Min.min (Int.toNat 32) (IntKind.bits .u64))))), (.int .i64 0), (.bool (decide (x0 ≥ 4294967296))), .undef, .undef] H (by kernel_rfl) ?_
    generalize hx1 : (Int.fdiv x0 (2 ^ (Min.min (Int.toNat 32) (IntKind.bits .u64)))) = x1 at h ⊢
    replace h := h x1 rfl
    refine then_norm ?_
    refine w_run [0] ?_
    refine t_done [(.int .u64 x1), (.int .i64 32), (.bool (decide (x0 ≥ 4294967296))), .undef, .undef] H (by kernel_rfl) ?_
    refine then_norm ?_
    refine w_seq ?_
    refine w_seq ?_
    refine w_run [0, 0] ?_
    refine t_done [(.int .u64 x1), (.int .i64 32), (.bool (decide (x0 ≥ 4294967296))), (.bool (decide (x1 ≥ 65536))), .undef] H (by kernel_rfl) ?_
    refine then_norm ?_
    refine w_cond (t := (decide (x1 ≥ 65536))) rfl (fun hc => ?_) (fun hc => ?_)
    · replace h := h.1 (is_dec.t hc)
      refine w_seq ?_
      refine w_run [0, 1, 0] ?_
      refine t_shr true .no .u64 .u64 x1 16 H (by kernel_rfl) (by decide) ?_
      refine t_done [(.int .u64 (Int.fdiv x1 (2 ^ (Min.min (Int.toNat 16) (IntKind.bits .u64))))), (.int .i64 32), (.bool (decide (x0 ≥ 4294967296))), (.bool (decide (x1 ≥ 65536))), .undef] H (by kernel_rfl) ?_
      generalize hx2 : (Int.fdiv x1 (2 ^ (Min.min (Int.toNat 16) (IntKind.bits .u64)))) = x2 at h ⊢
      replace h := h x2 rfl
      refine then_norm ?_
      refine w_run [0, 0, 0] ?_
      refine t_done [(.int .u64 x2), (.int .i64 (IntKind.wrap .i64 (32 + 16))), (.bool (decide (x0 ≥ 4294967296))), (.bool (decide (x1 ≥ 65536))), .undef] H (by kernel_rfl) ?_
      refine then_norm ?_
      refine w_seq ?_
      refine w_seq ?_
      refine w_run [0, 0] ?_
      refine t_done [(.int .u64 x2), (.int .i64 (IntKind.wrap .i64 (32 + 16))), (.bool (decide (x0 ≥ 4294967296))), (.bool (decide (x1 ≥ 65536))), (.bool (decide (x2 ≥ 256)))] H (by kernel_rfl) ?_
      refine then_norm ?_
      refine w_cond (t := (decide (x2 ≥ 256))) rfl (fun hc => ?_) (fun hc => ?_)
      · replace h := h.1 (is_dec.t hc)
        refine w_seq ?_
        refine w_run [0, 1, 0] ?_
        refine t_shr true .no .u64 .u64 x2 8 H (by kernel_rfl) (by decide) ?_
        refine t_done [(.int .u64 (Int.fdiv x2 (2 ^ (Min.min (Int.toNat 8) (IntKind.bits .u64))))), (.int .i64 (IntKind.wrap .i64 (32 + 16))), (.bool (decide (x0 ≥ 4294967296))), (.bool (decide (x1 ≥ 65536))), (.bool (decide (x2 ≥ 256)))] H (by kernel_rfl) ?_
        generalize hx3 : (Int.fdiv x2 (2 ^ (Min.min (Int.toNat 8) (IntKind.bits .u64)))) = x3 at h ⊢
        replace h := h x3 rfl
        refine then_norm ?_
        refine w_run [0, 0, 0] ?_
        refine t_done [(.int .u64 x3), (.int .i64 (IntKind.wrap .i64 ((IntKind.wrap .i64 (32 + 16)) + 8))), (.bool (decide (x0 ≥ 4294967296))), (.bool (decide (x1 ≥ 65536))), (.bool (decide (x2 ≥ 256)))] H (by kernel_rfl) ?_
        refine then_norm ?_
        refine w_seq ?_
        refine w_run [0, 0, 0, 1, 0, 0, 0] ?_
        obtain ⟨c4, hi, h⟩ := h
        refine t_str true (⟨#[0, 1, 2, 2, 3, 3, 3, 3, 4, 4, 4, 4, 4, 4, 4, 4, 5, 5, 5, 5, 5, 5, 5, 5, 5, 5, 5, 5, 5, 5, 5, 5, 6, 6, 6, 6, 6, 6, 6, 6, 6, 6, 6, 6, 6, 6, 6, 6, 6, 6, 6, 6, 6, 6, 6, 6, 6, 6, 6, 6, 6, 6, 6, 6, 7, 7, 7, 7, 7, 7, 7, 7, 7, 7, 7, 7, 7, 7, 7, 7, 7, 7, 7, 7, 7, 7, 7, 7, 7, 7, 7, 7, 7, 7, 7, 7, 7, 7, 7, 7, 7, 7, 7, 7, 7, 7, 7, 7, 7, 7, 7, 7, 7, 7, 7, 7, 7, 7, 7, 7, 7, 7, 7, 7, 7, 7, 7, 7, 8, 8, 8, 8, 8, 8, 8, 8, 8, 8, 8, 8, 8, 8, 8, 8, 8, 8, 8, 8, 8, 8, 8, 8, 8, 8, 8, 8, 8, 8, 8, 8, 8, 8, 8, 8, 8, 8, 8, 8, 8, 8, 8, 8, 8, 8, 8, 8, 8, 8, 8, 8, 8, 8, 8, 8, 8, 8, 8, 8, 8, 8, 8, 8, 8, 8, 8, 8, 8, 8, 8, 8, 8, 8, 8, 8, 8, 8, 8, 8, 8, 8, 8, 8, 8, 8, 8, 8, 8, 8, 8, 8, 8, 8, 8, 8, 8, 8, 8, 8, 8, 8, 8, 8, 8, 8, 8, 8, 8, 8, 8, 8, 8, 8, 8, 8, 8, 8, 8, 8, 8, 8, 8, 8, 8, 8, 8, 8]⟩ : ByteArray) .u8 (IntKind.wrap .u8 (x3)) c4 H (by kernel_rfl) hi ?_
        refine t_done [(.int .u64 x3), (.int .i64 (IntKind.wrap .i64 ((IntKind.wrap .i64 ((IntKind.wrap .i64 (32 + 16)) + 8)) + (IntKind.wrap .i64 ((c4 : Int)))))), (.bool (decide (x0 ≥ 4294967296))), (.bool (decide (x1 ≥ 65536))), (.bool (decide (x2 ≥ 256)))] H (by kernel_rfl) ?_
        refine then_norm ?_
        refine w_ret ?_
        exact body_ret (vs := [(.int .i64 (IntKind.wrap .i64 ((IntKind.wrap .i64 ((IntKind.wrap .i64 (32 + 16)) + 8)) + (IntKind.wrap .i64 ((c4 : Int))))))]) _ (by kernel_rfl) rfl h
      · replace h := h.2 (is_dec.f hc)
        refine w_skip ?_
        refine then_norm ?_
        refine w_seq ?_
        refine w_run [0, 0, 0, 1, 0, 0, 0] ?_
        obtain ⟨c5, hi, h⟩ := h
        refine t_str true (⟨#[0, 1, 2, 2, 3, 3, 3, 3, 4, 4, 4, 4, 4, 4, 4, 4, 5, 5, 5, 5, 5, 5, 5, 5, 5, 5, 5, 5, 5, 5, 5, 5, 6, 6, 6, 6, 6, 6, 6, 6, 6, 6, 6, 6, 6, 6, 6, 6, 6, 6, 6, 6, 6, 6, 6, 6, 6, 6, 6, 6, 6, 6, 6, 6, 7, 7, 7, 7, 7, 7, 7, 7, 7, 7, 7, 7, 7, 7, 7, 7, 7, 7, 7, 7, 7, 7, 7, 7, 7, 7, 7, 7, 7, 7, 7, 7, 7, 7, 7, 7, 7, 7, 7, 7, 7, 7, 7, 7, 7, 7, 7, 7, 7, 7, 7, 7, 7, 7, 7, 7, 7, 7, 7, 7, 7, 7, 7, 7, 8, 8, 8, 8, 8, 8, 8, 8, 8, 8, 8, 8, 8, 8, 8, 8, 8, 8, 8, 8, 8, 8, 8, 8, 8, 8, 8, 8, 8, 8, 8, 8, 8, 8, 8, 8, 8, 8, 8, 8, 8, 8, 8, 8, 8, 8, 8, 8, 8, 8, 8, 8, 8, 8, 8, 8, 8, 8, 8, 8, 8, 8, 8, 8, 8, 8, 8, 8, 8, 8, 8, 8, 8, 8, 8, 8, 8, 8, 8, 8, 8, 8, 8, 8, 8, 8, 8, 8, 8, 8, 8, 8, 8, 8, 8, 8, 8, 8, 8, 8, 8, 8, 8, 8, 8, 8, 8, 8, 8, 8, 8, 8, 8, 8, 8, 8, 8, 8, 8, 8, 8, 8, 8, 8, 8, 8, 8, 8]⟩ : ByteArray) .u8 (IntKind.wrap .u8 (x2)) c5 H (by kernel_rfl) hi ?_
        refine t_done [(.int .u64 x2), (.int .i64 (IntKind.wrap .i64 ((IntKind.wrap .i64 (32 + 16)) + (IntKind.wrap .i64 ((c5 : Int)))))), (.bool (decide (x0 ≥ 4294967296))), (.bool (decide (x1 ≥ 65536))), (.bool (decide (x2 ≥ 256)))] H (by kernel_rfl) ?_
        refine then_norm ?_
        refine w_ret ?_
        exact body_ret (vs := [(.int .i64 (IntKind.wrap .i64 ((IntKind.wrap .i64 (32 + 16)) + (IntKind.wrap .i64 ((c5 : Int))))))]) _ (by kernel_rfl) rfl h
    · replace h := h.2 (is_dec.f hc)
      refine w_skip ?_
      refine then_norm ?_
      refine w_seq ?_
      refine w_seq ?_
      refine w_run [0, 0] ?_
      refine t_done [(.int .u64 x1), (.int .i64 32), (.bool (decide (x0 ≥ 4294967296))), (.bool (decide (x1 ≥ 65536))), (.bool (decide (x1 ≥ 256)))] H (by kernel_rfl) ?_
      refine then_norm ?_
      refine w_cond (t := (decide (x1 ≥ 256))) rfl (fun hc => ?_) (fun hc => ?_)
      · replace h := h.1 (is_dec.t hc)
        refine w_seq ?_
        refine w_run [0, 1, 0] ?_
        refine t_shr true .no .u64 .u64 x1 8 H (by kernel_rfl) (by decide) ?_
        refine t_done [(.int .u64 (Int.fdiv x1 (2 ^ (Min.min (Int.toNat 8) (IntKind.bits .u64))))), (.int .i64 32), (.bool (decide (x0 ≥ 4294967296))), (.bool (decide (x1 ≥ 65536))), (.bool (decide (x1 ≥ 256)))] H (by kernel_rfl) ?_
        generalize hx6 : (Int.fdiv x1 (2 ^ (Min.min (Int.toNat 8) (IntKind.bits .u64)))) = x6 at h ⊢
        replace h := h x6 rfl
        refine then_norm ?_
        refine w_run [0, 0, 0] ?_
        refine t_done [(.int .u64 x6), (.int .i64 (IntKind.wrap .i64 (32 + 8))), (.bool (decide (x0 ≥ 4294967296))), (.bool (decide (x1 ≥ 65536))), (.bool (decide (x1 ≥ 256)))] H (by kernel_rfl) ?_
        refine then_norm ?_
        refine w_seq ?_
        refine w_run [0, 0, 0, 1, 0, 0, 0] ?_
        obtain ⟨c7, hi, h⟩ := h
        refine t_str true (⟨#[0, 1, 2, 2, 3, 3, 3, 3, 4, 4, 4, 4, 4, 4, 4, 4, 5, 5, 5, 5, 5, 5, 5, 5, 5, 5, 5, 5, 5, 5, 5, 5, 6, 6, 6, 6, 6, 6, 6, 6, 6, 6, 6, 6, 6, 6, 6, 6, 6, 6, 6, 6, 6, 6, 6, 6, 6, 6, 6, 6, 6, 6, 6, 6, 7, 7, 7, 7, 7, 7, 7, 7, 7, 7, 7, 7, 7, 7, 7, 7, 7, 7, 7, 7, 7, 7, 7, 7, 7, 7, 7, 7, 7, 7, 7, 7, 7, 7, 7, 7, 7, 7, 7, 7, 7, 7, 7, 7, 7, 7, 7, 7, 7, 7, 7, 7, 7, 7, 7, 7, 7, 7, 7, 7, 7, 7, 7, 7, 8, 8, 8, 8, 8, 8, 8, 8, 8, 8, 8, 8, 8, 8, 8, 8, 8, 8, 8, 8, 8, 8, 8, 8, 8, 8, 8, 8, 8, 8, 8, 8, 8, 8, 8, 8, 8, 8, 8, 8, 8, 8, 8, 8, 8, 8, 8, 8, 8, 8, 8, 8, 8, 8, 8, 8, 8, 8, 8, 8, 8, 8, 8, 8, 8, 8, 8, 8, 8, 8, 8, 8, 8, 8, 8, 8, 8, 8, 8, 8, 8, 8, 8, 8, 8, 8, 8, 8, 8, 8, 8, 8, 8, 8, 8, 8, 8, 8, 8, 8, 8, 8, 8, 8, 8, 8, 8, 8, 8, 8, 8, 8, 8, 8, 8, 8, 8, 8, 8, 8, 8, 8, 8, 8, 8, 8, 8, 8]⟩ : ByteArray) .u8 (IntKind.wrap .u8 (x6)) c7 H (by kernel_rfl) hi ?_
        refine t_done [(.int .u64 x6), (.int .i64 (IntKind.wrap .i64 ((IntKind.wrap .i64 (32 + 8)) + (IntKind.wrap .i64 ((c7 : Int)))))), (.bool (decide (x0 ≥ 4294967296))), (.bool (decide (x1 ≥ 65536))), (.bool (decide (x1 ≥ 256)))] H (by kernel_rfl) ?_
        refine then_norm ?_
        refine w_ret ?_
        exact body_ret (vs := [(.int .i64 (IntKind.wrap .i64 ((IntKind.wrap .i64 (32 + 8)) + (IntKind.wrap .i64 ((c7 : Int))))))]) _ (by kernel_rfl) rfl h
      · replace h := h.2 (is_dec.f hc)
        refine w_skip ?_
        refine then_norm ?_
        refine w_seq ?_
        refine w_run [0, 0, 0, 1, 0, 0, 0] ?_
        obtain ⟨c8, hi, h⟩ := h
        refine t_str true (⟨#[0, 1, 2, 2, 3, 3, 3, 3, 4, 4, 4, 4, 4, 4, 4, 4, 5, 5, 5, 5, 5, 5, 5, 5, 5, 5, 5, 5, 5, 5, 5, 5, 6, 6, 6, 6, 6, 6, 6, 6, 6, 6, 6, 6, 6, 6, 6, 6, 6, 6, 6, 6, 6, 6, 6, 6, 6, 6, 6, 6, 6, 6, 6, 6, 7, 7, 7, 7, 7, 7, 7, 7, 7, 7, 7, 7, 7, 7, 7, 7, 7, 7, 7, 7, 7, 7, 7, 7, 7, 7, 7, 7, 7, 7, 7, 7, 7, 7, 7, 7, 7, 7, 7, 7, 7, 7, 7, 7, 7, 7, 7, 7, 7, 7, 7, 7, 7, 7, 7, 7, 7, 7, 7, 7, 7, 7, 7, 7, 8, 8, 8, 8, 8, 8, 8, 8, 8, 8, 8, 8, 8, 8, 8, 8, 8, 8, 8, 8, 8, 8, 8, 8, 8, 8, 8, 8, 8, 8, 8, 8, 8, 8, 8, 8, 8, 8, 8, 8, 8, 8, 8, 8, 8, 8, 8, 8, 8, 8, 8, 8, 8, 8, 8, 8, 8, 8, 8, 8, 8, 8, 8, 8, 8, 8, 8, 8, 8, 8, 8, 8, 8, 8, 8, 8, 8, 8, 8, 8, 8, 8, 8, 8, 8, 8, 8, 8, 8, 8, 8, 8, 8, 8, 8, 8, 8, 8, 8, 8, 8, 8, 8, 8, 8, 8, 8, 8, 8, 8, 8, 8, 8, 8, 8, 8, 8, 8, 8, 8, 8, 8, 8, 8, 8, 8, 8, 8]⟩ : ByteArray) .u8 (IntKind.wrap .u8 (x1)) c8 H (by kernel_rfl) hi ?_
        refine t_done [(.int .u64 x1), (.int .i64 (IntKind.wrap .i64 (32 + (IntKind.wrap .i64 ((c8 : Int)))))), (.bool (decide (x0 ≥ 4294967296))), (.bool (decide (x1 ≥ 65536))), (.bool (decide (x1 ≥ 256)))] H (by kernel_rfl) ?_
        refine then_norm ?_
        refine w_ret ?_
        exact body_ret (vs := [(.int .i64 (IntKind.wrap .i64 (32 + (IntKind.wrap .i64 ((c8 : Int))))))]) _ (by kernel_rfl) rfl h
  · replace h := h.2 (is_dec.f hc)
    refine w_skip ?_
    refine then_norm ?_
    refine w_seq ?_
    refine w_seq ?_
    refine w_run [0, 0] ?_
    refine t_done [(.int .u64 x0), (.int .i64 0), (.bool (decide (x0 ≥ 4294967296))), (.bool (decide (x0 ≥ 65536))), .undef] H (by kernel_rfl) ?_
    refine then_norm ?_
    refine w_cond (t := (decide (x0 ≥ 65536))) rfl (fun hc => ?_) (fun hc => ?_)
    · replace h := h.1 (is_dec.t hc)
      refine w_seq ?_
      refine w_run [0, 1, 0] ?_
      refine t_shr true .no .u64 .u64 x0 16 H (by kernel_rfl) (by decide) ?_
      refine t_done [(.int .u64 (Int.fdiv x0 (2 ^ (Min.min (Int.toNat 16) (IntKind.bits .u64))))), (.int .i64 0), (.bool (decide (x0 ≥ 4294967296))), (.bool (decide (x0 ≥ 65536))), .undef] H (by kernel_rfl) ?_
      generalize hx9 : (Int.fdiv x0 (2 ^ (Min.min (Int.toNat 16) (IntKind.bits .u64)))) = x9 at h ⊢
      replace h := h x9 rfl
      refine then_norm ?_
      refine w_run [0, 0, 0] ?_
      refine t_done [(.int .u64 x9), (.int .i64 (IntKind.wrap .i64 (0 + 16))), (.bool (decide (x0 ≥ 4294967296))), (.bool (decide (x0 ≥ 65536))), .undef] H (by kernel_rfl) ?_
      refine then_norm ?_
      refine w_seq ?_
      refine w_seq ?_
      refine w_run [0, 0] ?_
      refine t_done [(.int .u64 x9), (.int .i64 (IntKind.wrap .i64 (0 + 16))), (.bool (decide (x0 ≥ 4294967296))), (.bool (decide (x0 ≥ 65536))), (.bool (decide (x9 ≥ 256)))] H (by kernel_rfl) ?_
      refine then_norm ?_
      refine w_cond (t := (decide (x9 ≥ 256))) rfl (fun hc => ?_) (fun hc => ?_)
      · replace h := h.1 (is_dec.t hc)
        refine w_seq ?_
        refine w_run [0, 1, 0] ?_
        refine t_shr true .no .u64 .u64 x9 8 H (by kernel_rfl) (by decide) ?_
        refine t_done [(.int .u64 (Int.fdiv x9 (2 ^ (Min.min (Int.toNat 8) (IntKind.bits .u64))))), (.int .i64 (IntKind.wrap .i64 (0 + 16))), (.bool (decide (x0 ≥ 4294967296))), (.bool (decide (x0 ≥ 65536))), (.bool (decide (x9 ≥ 256)))] H (by kernel_rfl) ?_
        generalize hx10 : (Int.fdiv x9 (2 ^ (Min.min (Int.toNat 8) (IntKind.bits .u64)))) = x10 at h ⊢
        replace h := h x10 rfl
        refine then_norm ?_
        refine w_run [0, 0, 0] ?_
        refine t_done [(.int .u64 x10), (.int .i64 (IntKind.wrap .i64 ((IntKind.wrap .i64 (0 + 16)) + 8))), (.bool (decide (x0 ≥ 4294967296))), (.bool (decide (x0 ≥ 65536))), (.bool (decide (x9 ≥ 256)))] H (by kernel_rfl) ?_
        refine then_norm ?_
        refine w_seq ?_
        refine w_run [0, 0, 0, 1, 0, 0, 0] ?_
        obtain ⟨c11, hi, h⟩ := h
        refine t_str true (⟨#[0, 1, 2, 2, 3, 3, 3, 3, 4, 4, 4, 4, 4, 4, 4, 4, 5, 5, 5, 5, 5, 5, 5, 5, 5, 5, 5, 5, 5, 5, 5, 5, 6, 6, 6, 6, 6, 6, 6, 6, 6, 6, 6, 6, 6, 6, 6, 6, 6, 6, 6, 6, 6, 6, 6, 6, 6, 6, 6, 6, 6, 6, 6, 6, 7, 7, 7, 7, 7, 7, 7, 7, 7, 7, 7, 7, 7, 7, 7, 7, 7, 7, 7, 7, 7, 7, 7, 7, 7, 7, 7, 7, 7, 7, 7, 7, 7, 7, 7, 7, 7, 7, 7, 7, 7, 7, 7, 7, 7, 7, 7, 7, 7, 7, 7, 7, 7, 7, 7, 7, 7, 7, 7, 7, 7, 7, 7, 7, 8, 8, 8, 8, 8, 8, 8, 8, 8, 8, 8, 8, 8, 8, 8, 8, 8, 8, 8, 8, 8, 8, 8, 8, 8, 8, 8, 8, 8, 8, 8, 8, 8, 8, 8, 8, 8, 8, 8, 8, 8, 8, 8, 8, 8, 8, 8, 8, 8, 8, 8, 8, 8, 8, 8, 8, 8, 8, 8, 8, 8, 8, 8, 8, 8, 8, 8, 8, 8, 8, 8, 8, 8, 8, 8, 8, 8, 8, 8, 8, 8, 8, 8, 8, 8, 8, 8, 8, 8, 8, 8, 8, 8, 8, 8, 8, 8, 8, 8, 8, 8, 8, 8, 8, 8, 8, 8, 8, 8, 8, 8, 8, 8, 8, 8, 8, 8, 8, 8, 8, 8, 8, 8, 8, 8, 8, 8, 8]⟩ : ByteArray) .u8 (IntKind.wrap .u8 (x10)) c11 H (by kernel_rfl) hi ?_
        refine t_done [(.int .u64 x10), (.int .i64 (IntKind.wrap .i64 ((IntKind.wrap .i64 ((IntKind.wrap .i64 (0 + 16)) + 8)) + (IntKind.wrap .i64 ((c11 : Int)))))), (.bool (decide (x0 ≥ 4294967296))), (.bool (decide (x0 ≥ 65536))), (.bool (decide (x9 ≥ 256)))] H (by kernel_rfl) ?_
        refine then_norm ?_
        refine w_ret ?_
        exact body_ret (vs := [(.int .i64 (IntKind.wrap .i64 ((IntKind.wrap .i64 ((IntKind.wrap .i64 (0 + 16)) + 8)) + (IntKind.wrap .i64 ((c11 : Int))))))]) _ (by kernel_rfl) rfl h
      · replace h := h.2 (is_dec.f hc)
        refine w_skip ?_
        refine then_norm ?_
        refine w_seq ?_
        refine w_run [0, 0, 0, 1, 0, 0, 0] ?_
        obtain ⟨c12, hi, h⟩ := h
        refine t_str true (⟨#[0, 1, 2, 2, 3, 3, 3, 3, 4, 4, 4, 4, 4, 4, 4, 4, 5, 5, 5, 5, 5, 5, 5, 5, 5, 5, 5, 5, 5, 5, 5, 5, 6, 6, 6, 6, 6, 6, 6, 6, 6, 6, 6, 6, 6, 6, 6, 6, 6, 6, 6, 6, 6, 6, 6, 6, 6, 6, 6, 6, 6, 6, 6, 6, 7, 7, 7, 7, 7, 7, 7, 7, 7, 7, 7, 7, 7, 7, 7, 7, 7, 7, 7, 7, 7, 7, 7, 7, 7, 7, 7, 7, 7, 7, 7, 7, 7, 7, 7, 7, 7, 7, 7, 7, 7, 7, 7, 7, 7, 7, 7, 7, 7, 7, 7, 7, 7, 7, 7, 7, 7, 7, 7, 7, 7, 7, 7, 7, 8, 8, 8, 8, 8, 8, 8, 8, 8, 8, 8, 8, 8, 8, 8, 8, 8, 8, 8, 8, 8, 8, 8, 8, 8, 8, 8, 8, 8, 8, 8, 8, 8, 8, 8, 8, 8, 8, 8, 8, 8, 8, 8, 8, 8, 8, 8, 8, 8, 8, 8, 8, 8, 8, 8, 8, 8, 8, 8, 8, 8, 8, 8, 8, 8, 8, 8, 8, 8, 8, 8, 8, 8, 8, 8, 8, 8, 8, 8, 8, 8, 8, 8, 8, 8, 8, 8, 8, 8, 8, 8, 8, 8, 8, 8, 8, 8, 8, 8, 8, 8, 8, 8, 8, 8, 8, 8, 8, 8, 8, 8, 8, 8, 8, 8, 8, 8, 8, 8, 8, 8, 8, 8, 8, 8, 8, 8, 8]⟩ : ByteArray) .u8 (IntKind.wrap .u8 (x9)) c12 H (by kernel_rfl) hi ?_
        refine t_done [(.int .u64 x9), (.int .i64 (IntKind.wrap .i64 ((IntKind.wrap .i64 (0 + 16)) + (IntKind.wrap .i64 ((c12 : Int)))))), (.bool (decide (x0 ≥ 4294967296))), (.bool (decide (x0 ≥ 65536))), (.bool (decide (x9 ≥ 256)))] H (by kernel_rfl) ?_
        refine then_norm ?_
        refine w_ret ?_
        exact body_ret (vs := [(.int .i64 (IntKind.wrap .i64 ((IntKind.wrap .i64 (0 + 16)) + (IntKind.wrap .i64 ((c12 : Int))))))]) _ (by kernel_rfl) rfl h
    · replace h := h.2 (is_dec.f hc)
      refine w_skip ?_
      refine then_norm ?_
      refine w_seq ?_
      refine w_seq ?_
      refine w_run [0, 0] ?_
      refine t_done [(.int .u64 x0), (.int .i64 0), (.bool (decide (x0 ≥ 4294967296))), (.bool (decide (x0 ≥ 65536))), (.bool (decide (x0 ≥ 256)))] H (by kernel_rfl) ?_
      refine then_norm ?_
      refine w_cond (t := (decide (x0 ≥ 256))) rfl (fun hc => ?_) (fun hc => ?_)
      · replace h := h.1 (is_dec.t hc)
        refine w_seq ?_
        refine w_run [0, 1, 0] ?_
        refine t_shr true .no .u64 .u64 x0 8 H (by kernel_rfl) (by decide) ?_
        refine t_done [(.int .u64 (Int.fdiv x0 (2 ^ (Min.min (Int.toNat 8) (IntKind.bits .u64))))), (.int .i64 0), (.bool (decide (x0 ≥ 4294967296))), (.bool (decide (x0 ≥ 65536))), (.bool (decide (x0 ≥ 256)))] H (by kernel_rfl) ?_
        generalize hx13 : (Int.fdiv x0 (2 ^ (Min.min (Int.toNat 8) (IntKind.bits .u64)))) = x13 at h ⊢
        replace h := h x13 rfl
        refine then_norm ?_
        refine w_run [0, 0, 0] ?_
        refine t_done [(.int .u64 x13), (.int .i64 (IntKind.wrap .i64 (0 + 8))), (.bool (decide (x0 ≥ 4294967296))), (.bool (decide (x0 ≥ 65536))), (.bool (decide (x0 ≥ 256)))] H (by kernel_rfl) ?_
        refine then_norm ?_
        refine w_seq ?_
        refine w_run [0, 0, 0, 1, 0, 0, 0] ?_
        obtain ⟨c14, hi, h⟩ := h
        refine t_str true (⟨#[0, 1, 2, 2, 3, 3, 3, 3, 4, 4, 4, 4, 4, 4, 4, 4, 5, 5, 5, 5, 5, 5, 5, 5, 5, 5, 5, 5, 5, 5, 5, 5, 6, 6, 6, 6, 6, 6, 6, 6, 6, 6, 6, 6, 6, 6, 6, 6, 6, 6, 6, 6, 6, 6, 6, 6, 6, 6, 6, 6, 6, 6, 6, 6, 7, 7, 7, 7, 7, 7, 7, 7, 7, 7, 7, 7, 7, 7, 7, 7, 7, 7, 7, 7, 7, 7, 7, 7, 7, 7, 7, 7, 7, 7, 7, 7, 7, 7, 7, 7, 7, 7, 7, 7, 7, 7, 7, 7, 7, 7, 7, 7, 7, 7, 7, 7, 7, 7, 7, 7, 7, 7, 7, 7, 7, 7, 7, 7, 8, 8, 8, 8, 8, 8, 8, 8, 8, 8, 8, 8, 8, 8, 8, 8, 8, 8, 8, 8, 8, 8, 8, 8, 8, 8, 8, 8, 8, 8, 8, 8, 8, 8, 8, 8, 8, 8, 8, 8, 8, 8, 8, 8, 8, 8, 8, 8, 8, 8, 8, 8, 8, 8, 8, 8, 8, 8, 8, 8, 8, 8, 8, 8, 8, 8, 8, 8, 8, 8, 8, 8, 8, 8, 8, 8, 8, 8, 8, 8, 8, 8, 8, 8, 8, 8, 8, 8, 8, 8, 8, 8, 8, 8, 8, 8, 8, 8, 8, 8, 8, 8, 8, 8, 8, 8, 8, 8, 8, 8, 8, 8, 8, 8, 8, 8, 8, 8, 8, 8, 8, 8, 8, 8, 8, 8, 8, 8]⟩ : ByteArray) .u8 (IntKind.wrap .u8 (x13)) c14 H (by kernel_rfl) hi ?_
        refine t_done [(.int .u64 x13), (.int .i64 (IntKind.wrap .i64 ((IntKind.wrap .i64 (0 + 8)) + (IntKind.wrap .i64 ((c14 : Int)))))), (.bool (decide (x0 ≥ 4294967296))), (.bool (decide (x0 ≥ 65536))), (.bool (decide (x0 ≥ 256)))] H (by kernel_rfl) ?_
        refine then_norm ?_
        refine w_ret ?_
        exact body_ret (vs := [(.int .i64 (IntKind.wrap .i64 ((IntKind.wrap .i64 (0 + 8)) + (IntKind.wrap .i64 ((c14 : Int))))))]) _ (by kernel_rfl) rfl h
      · replace h := h.2 (is_dec.f hc)
        refine w_skip ?_
        refine then_norm ?_
        refine w_seq ?_
        refine w_run [0, 0, 0, 1, 0, 0, 0] ?_
        obtain ⟨c15, hi, h⟩ := h
        refine t_str true (⟨#[0, 1, 2, 2, 3, 3, 3, 3, 4, 4, 4, 4, 4, 4, 4, 4, 5, 5, 5, 5, 5, 5, 5, 5, 5, 5, 5, 5, 5, 5, 5, 5, 6, 6, 6, 6, 6, 6, 6, 6, 6, 6, 6, 6, 6, 6, 6, 6, 6, 6, 6, 6, 6, 6, 6, 6, 6, 6, 6, 6, 6, 6, 6, 6, 7, 7, 7, 7, 7, 7, 7, 7, 7, 7, 7, 7, 7, 7, 7, 7, 7, 7, 7, 7, 7, 7, 7, 7, 7, 7, 7, 7, 7, 7, 7, 7, 7, 7, 7, 7, 7, 7, 7, 7, 7, 7, 7, 7, 7, 7, 7, 7, 7, 7, 7, 7, 7, 7, 7, 7, 7, 7, 7, 7, 7, 7, 7, 7, 8, 8, 8, 8, 8, 8, 8, 8, 8, 8, 8, 8, 8, 8, 8, 8, 8, 8, 8, 8, 8, 8, 8, 8, 8, 8, 8, 8, 8, 8, 8, 8, 8, 8, 8, 8, 8, 8, 8, 8, 8, 8, 8, 8, 8, 8, 8, 8, 8, 8, 8, 8, 8, 8, 8, 8, 8, 8, 8, 8, 8, 8, 8, 8, 8, 8, 8, 8, 8, 8, 8, 8, 8, 8, 8, 8, 8, 8, 8, 8, 8, 8, 8, 8, 8, 8, 8, 8, 8, 8, 8, 8, 8, 8, 8, 8, 8, 8, 8, 8, 8, 8, 8, 8, 8, 8, 8, 8, 8, 8, 8, 8, 8, 8, 8, 8, 8, 8, 8, 8, 8, 8, 8, 8, 8, 8, 8, 8]⟩ : ByteArray) .u8 (IntKind.wrap .u8 (x0)) c15 H (by kernel_rfl) hi ?_
        refine t_done [(.int .u64 x0), (.int .i64 (IntKind.wrap .i64 (0 + (IntKind.wrap .i64 ((c15 : Int)))))), (.bool (decide (x0 ≥ 4294967296))), (.bool (decide (x0 ≥ 65536))), (.bool (decide (x0 ≥ 256)))] H (by kernel_rfl) ?_
        refine then_norm ?_
        refine w_ret ?_
        exact body_ret (vs := [(.int .i64 (IntKind.wrap .i64 (0 + (IntKind.wrap .i64 ((c15 : Int))))))]) _ (by kernel_rfl) rfl h

def rf_mathbits_LeadingZeros64 (nmathbits_Len64 : Nat) : RFunc := ⟨1, 2, [.var 1],
 ((.seq (.ops [⟨.move (.k (.int .i64 0)), none, (some 1), true⟩])
 ((.seq (.ops [⟨.move (.var 0), none, none, true⟩, ⟨.callS nmathbits_Len64 [(.loc 0)], none, none, true⟩, ⟨.bin .sub .no (.k (.int .i64 64)) (.loc 1), none, none, true⟩, ⟨.move (.loc 2), none, (some 1), true⟩])
 (.ret))))), none⟩
theorem v_mathbits_LeadingZeros64 {F : Nat → Option RFunc} {me nmathbits_Len64 : Nat} (hF : F me = some (rf_mathbits_LeadingZeros64 nmathbits_Len64)) {fl : Nat} {H : Heap} {Q : AV → Heap → Prop} (x0 : Int)
  (h : Ret F fl nmathbits_Len64 [(.int .u64 x0)] H (fun v3 H2 => ∃ (r1 : Int), v3 = (.int .i64 r1) ∧ Q (.int .i64 (IntKind.wrap .i64 (64 - r1))) H2)) : Ret F fl me [(.int .u64 x0)] H Q := by
  refine ret_intro hF rfl ?_
  refine w_seq ?_
  refine w_run [0] ?_
  refine t_done [(.int .u64 x0), (.int .i64 0)] H (by kernel_rfl) ?_
  refine then_norm ?_
  refine w_seq ?_
  refine w_run [0, 1, 0, 0] ?_
  refine t_call true nmathbits_Len64 [(.int .u64 x0)] H (by kernel_rfl) h ?_
  clear h
  rintro _ H2 ⟨r1, rfl, h⟩
  refine t_done [(.int .u64 x0), (.int .i64 (IntKind.wrap .i64 (64 - r1)))] H2 (by kernel_rfl) ?_
  refine then_norm ?_
  refine w_ret ?_
  exact body_ret (vs := [(.int .i64 (IntKind.wrap .i64 (64 - r1)))]) _ (by kernel_rfl) rfl h

def rf_digest_Pair (ndigest_mul : Nat) : RFunc := ⟨2, 10, [.var 2, .part 3 (some 2)],
 ((.seq (.ops [⟨.move (.k (.int .i64 0)), none, (some 2), true⟩, ⟨.tomb 1 (.k (.agg [.int .i64 0, .int .i64 0])), none, (some 3), true⟩])
 ((.seq ((.seq (.ops [⟨.move (.var 0), none, none, true⟩, ⟨.move (.var 1), none, none, true⟩, ⟨.build [.int .i64 0, .int .i64 0] [(0, 1, (.loc 0)), (1, 1, (.loc 1))], none, (some 6), true⟩, ⟨.move (.k (.int .i64 0)), none, (some 4), true⟩])
 (.block 0 (.loop ((.seq (.ops [⟨.bin .lss .no (.var 4) (.k (.int .i64 2)), none, (some 5), true⟩])
 ((.seq (.cond (.var 5) (.skip) (.exit 0))
 ((.seq (.block 1 ((.seq (.ops [⟨.move (.var 4), none, none, true⟩, ⟨.indexAgg 2 1 none (.var 6) (.var 4), none, none, true⟩, ⟨.move (.loc 0), none, (some 9), true⟩, ⟨.move (.loc 1), none, (some 7), true⟩])
 ((.seq (.ops [⟨.move (.var 7), none, none, true⟩, ⟨.bin .lss .no (.loc 0) (.k (.int .i64 0)), none, none, true⟩, ⟨.move (.loc 1), none, none, true⟩, ⟨.move (.var 7), none, none, true⟩, ⟨.bin .geq .no (.loc 3) (.k (.int .i64 2305843009213693951)), none, none, true⟩, ⟨.pick (.loc 2) (.k (.bool true)) (.loc 4), none, (some 8), true⟩])
 (.cond (.var 8) ((.seq (.ops [⟨.move (.var 9), none, none, true⟩, ⟨.build [.int .i64 0, .int .i64 0] [(0, 1, (.k (.int .i64 3))), (1, 1, (.loc 0))], none, none, true⟩, ⟨.move (.k (.int .i64 0)), none, (some 2), true⟩, ⟨.upd 2 0 (.var 3) (.loc 1), none, (some 3), true⟩])
 (.ret))) (.skip)))))))
 (.ops [⟨.bin .add .no (.var 4) (.k (.int .i64 1)), none, none, true⟩, ⟨.move (.loc 0), none, (some 4), true⟩])))))))))))
 ((.seq (.ops [⟨.move (.var 0), none, none, true⟩, ⟨.convInt .u64 (.loc 0), none, none, true⟩, ⟨.callS ndigest_mul [(.loc 1), (.k (.int .u64 1000003))], none, none, true⟩, ⟨.move (.var 1), none, none, true⟩, ⟨.convInt .u64 (.loc 3), none, none, true⟩, ⟨.callS ndigest_mul [(.loc 4), (.k (.int .u64 31))], none, none, true⟩, ⟨.bin .add .no (.loc 2) (.loc 5), none, none, true⟩, ⟨.bin .add .no (.loc 6) (.k (.int .u64 7)), none, none, true⟩, ⟨.bin .rem .no (.loc 7) (.k (.int .u64 2305843009213693951)), none, none, true⟩, ⟨.convInt .i64 (.loc 8), none, none, true⟩, ⟨.build [.int .i64 0, .int .i64 0] [], none, none, true⟩, ⟨.move (.loc 9), none, (some 2), true⟩, ⟨.upd 2 0 (.var 3) (.loc 10), none, (some 3), true⟩])
 (.ret))))))), none⟩
theorem v_digest_Pair {F : Nat → Option RFunc} {me ndigest_mul : Nat} (hF : F me = some (rf_digest_Pair ndigest_mul)) {fl : Nat} {H : Heap} {Q : AV → Heap → Prop} (a0 : Int) (b1 : Int)
  (h : ∀ (H2 : Heap), Dead1 H 1 H2 → ∃ (J3 : Nat → Int → Int → Int → Prop) (k4 : Nat), J3 k4 0 0 0 ∧ (∀ (m5 : Nat) (v7 : Int) (v8 : Int) (v9 : Int), J3 m5 v7 v8 v9 → ((v9 < 2) → (0 ≤ v9 ∧ v9 < ((2 : Nat) : Int)) ∧ ∃ (e14 : Int), rpart none [(.int .i64 a0), (.int .i64 b1)] (Int.toNat v9 * 1) = some (.int .i64 e14) ∧ ((((e14 < 0) ∨ (e14 ≥ 2305843009213693951))) → Q (.tuple [(.int .i64 0), (.agg [(.int .i64 3), (.int .i64 v9)])]) H2) ∧ (¬(((e14 < 0) ∨ (e14 ≥ 2305843009213693951))) → ∃ m15 : Nat, m15 < m5 ∧ J3 m15 v7 v8 (IntKind.wrap .i64 (v9 + 1)))) ∧ (¬(v9 < 2) → Ret F fl ndigest_mul [(.int .u64 (IntKind.wrap .u64 (a0))), (.int .u64 1000003)] H2 (fun v18 H17 => ∃ (r16 : Int), v18 = (.int .u64 r16) ∧ Ret F fl ndigest_mul [(.int .u64 (IntKind.wrap .u64 (b1))), (.int .u64 31)] H17 (fun v21 H20 => ∃ (r19 : Int), v21 = (.int .u64 r19) ∧ Q (.tuple [(.int .i64 (IntKind.wrap .i64 ((Int.tmod (IntKind.wrap .u64 ((IntKind.wrap .u64 (r16 + r19)) + 7)) 2305843009213693951)))), (.agg [(.int .i64 0), (.int .i64 0)])]) H20))))) : Ret F fl me [(.int .i64 a0), (.int .i64 b1)] H Q := by
  refine ret_intro hF rfl ?_
  refine w_seq ?_
  refine w_run [0, 1] ?_
  obtain ⟨H2, hb⟩ : ∃ H', Dead1 H 1 H' := ⟨_, ⟨rfl⟩⟩
  replace h := h H2 hb
  refine t_tomb true 1 (.agg [(.int .i64 0), (.int .i64 0)]) [(.int .i64 0), (.int .i64 0)] H2 H (by kernel_rfl) rfl hb ?_
  refine t_done [(.int .i64 a0), (.int .i64 b1), (.int .i64 0), (.agg [(.int .i64 0), (.int .i64 0)]), .undef, .undef, .undef, .undef, .undef, .undef] H2 (by kernel_rfl) ?_
  refine then_norm ?_
  refine w_seq ?_
  refine w_seq ?_
  refine w_run [0, 0, 1, 0] ?_
  refine t_build true [(.int .i64 0), (.int .i64 0)] [(0, 1, .loc 0), (1, 1, .loc 1)] [(.int .i64 a0), (.int .i64 b1)] [(.int .i64 a0), (.int .i64 b1)] H2 (by kernel_rfl) (fill_c (vs := [(.int .i64 a0)]) (size := 1) rfl (by kernel_rfl) (by kernel_rfl) (fill_c (vs := [(.int .i64 b1)]) (size := 1) rfl (by kernel_rfl) (by kernel_rfl) (by kernel_rfl))) ?_
  refine t_done [(.int .i64 a0), (.int .i64 b1), (.int .i64 0), (.agg [(.int .i64 0), (.int .i64 0)]), (.int .i64 0), .undef, (.agg [(.int .i64 a0), (.int .i64 b1)]), .undef, .undef, .undef] H2 (by kernel_rfl) ?_
  refine then_norm ?_
  refine w_block ?_
  obtain ⟨J3, k4, h0, h⟩ := h
  refine w_loop (I := fun mI EI HI => ∃ (d6 : AV) (v7 : Int) (v8 : Int) (v9 : Int) (d10 : AV) (d11 : AV) (d12 : AV) (d13 : AV), EI = [(.int .i64 a0), (.int .i64 b1), d6, (.agg [(.int .i64 v7), (.int .i64 v8)]), (.int .i64 v9), d10, (.agg [(.int .i64 a0), (.int .i64 b1)]), d11, d12, d13] ∧ H2 = HI ∧ J3 mI v7 v8 v9) ?_ k4 ⟨_, _, _, _, _, _, _, _, rfl, rfl, h0⟩
  clear h0
  rintro m5 EI HI ⟨d6, v7, v8, v9, d10, d11, d12, d13, rfl, rfl, hJ⟩
  replace h := h m5 v7 v8 v9  hJ
  clear hJ
  refine w_seq ?_
  refine w_run [0] ?_
  refine t_done [(.int .i64 a0), (.int .i64 b1), d6, (.agg [(.int .i64 v7), (.int .i64 v8)]), (.int .i64 v9), (.bool (decide (v9 < 2))), (.agg [(.int .i64 a0), (.int .i64 b1)]), d11, d12, d13] H2 (by kernel_rfl) ?_
  refine then_norm ?_
  refine w_seq ?_
  refine w_cond (t := (decide (v9 < 2))) rfl (fun hc => ?_) (fun hc => ?_)
  · replace h := h.1 (is_dec.t hc)
    refine w_skip ?_
    refine then_norm ?_
    refine w_seq ?_
    refine w_block ?_
    refine w_seq ?_
    refine w_run [0, 1, 0, 0] ?_
    obtain ⟨hi, e14, hv, h⟩ := h
    refine t_agg true 2 1 none [(.int .i64 a0), (.int .i64 b1)] .i64 v9 (.int .i64 e14) H2 (by kernel_rfl) hi hv ?_
    refine t_done [(.int .i64 a0), (.int .i64 b1), d6, (.agg [(.int .i64 v7), (.int .i64 v8)]), (.int .i64 v9), (.bool (decide (v9 < 2))), (.agg [(.int .i64 a0), (.int .i64 b1)]), (.int .i64 e14), d12, (.int .i64 v9)] H2 (by kernel_rfl) ?_
    refine then_norm ?_
    refine w_seq ?_
    refine w_run [0, 0, 0, 0, 0, 0] ?_
    refine t_done [(.int .i64 a0), (.int .i64 b1), d6, (.agg [(.int .i64 v7), (.int .i64 v8)]), (.int .i64 v9), (.bool (decide (v9 < 2))), (.agg [(.int .i64 a0), (.int .i64 b1)]), (.int .i64 e14), (.bool ((decide (e14 < 0)) || (decide (e14 ≥ 2305843009213693951)))), (.int .i64 v9)] H2 (by kernel_rfl) ?_
    refine then_norm ?_
    refine w_cond (t := ((decide (e14 < 0)) || (decide (e14 ≥ 2305843009213693951)))) rfl (fun hc => ?_) (fun hc => ?_)
    · replace h := h.1 ((is_or is_dec is_dec).t hc)
      refine w_seq ?_
      refine w_run [0, 1, 0, 1] ?_
      refine t_build true [(.int .i64 0), (.int .i64 0)] [(0, 1, .loc 0), (1, 1, .loc 1)] [(.int .i64 3), (.int .i64 v9)] [(.int .i64 3), (.int .i64 v9)] H2 (by kernel_rfl) (fill_c (vs := [(.int .i64 3)]) (size := 1) rfl (by kernel_rfl) (by kernel_rfl) (fill_c (vs := [(.int .i64 v9)]) (size := 1) rfl (by kernel_rfl) (by kernel_rfl) (by kernel_rfl))) ?_
      refine t_upd true 2 0 [(.int .i64 v7), (.int .i64 v8)] (.agg [(.int .i64 3), (.int .i64 v9)]) [(.int .i64 3), (.int .i64 v9)] [(.int .i64 3), (.int .i64 v9)] H2 (by kernel_rfl) rfl (all_c rfl (all_c rfl all_n)) ⟨rfl, Nat.le_of_ble_eq_true (by kernel_rfl), rfl⟩ ?_
      refine t_done [(.int .i64 a0), (.int .i64 b1), (.int .i64 0), (.agg [(.int .i64 3), (.int .i64 v9)]), (.int .i64 v9), (.bool (decide (v9 < 2))), (.agg [(.int .i64 a0), (.int .i64 b1)]), (.int .i64 e14), (.bool ((decide (e14 < 0)) || (decide (e14 ≥ 2305843009213693951)))), (.int .i64 v9)] H2 (by kernel_rfl) ?_
      refine then_norm ?_
      refine w_ret ?_
      refine block_ret ?_
      refine then_ret ?_
      refine loop_ret ?_
      refine block_ret ?_
      refine then_ret ?_
      exact body_ret (vs := [(.int .i64 0), (.agg [(.int .i64 3), (.int .i64 v9)])]) _ (by kernel_rfl) rfl h
    · replace h := h.2 ((is_or is_dec is_dec).f hc)
      refine w_skip ?_
      refine block_norm ?_
      refine then_norm ?_
      refine w_run [0, 0] ?_
      refine t_done [(.int .i64 a0), (.int .i64 b1), d6, (.agg [(.int .i64 v7), (.int .i64 v8)]), (.int .i64 (IntKind.wrap .i64 (v9 + 1))), (.bool (decide (v9 < 2))), (.agg [(.int .i64 a0), (.int .i64 b1)]), (.int .i64 e14), (.bool ((decide (e14 < 0)) || (decide (e14 ≥ 2305843009213693951)))), (.int .i64 v9)] H2 (by kernel_rfl) ?_
      obtain ⟨m', hm, h⟩ := h
      refine loop_norm ⟨m', hm, _, _, _, _, _, _, _, _, rfl, rfl, h⟩
  · replace h := h.2 (is_dec.f hc)
    refine w_exit ?_
    refine then_exit ?_
    refine loop_exit ?_
    refine block_exit ?_
    refine then_norm ?_
    refine w_seq ?_
    refine w_run [0, 0, 1, 0, 0, 1, 0, 0, 1, 0, 1, 0, 1] ?_
    refine t_call true ndigest_mul [(.int .u64 (IntKind.wrap .u64 (a0))), (.int .u64 1000003)] H2 (by kernel_rfl) h ?_
    clear h
    rintro _ H17 ⟨r16, rfl, h⟩
    refine t_call true ndigest_mul [(.int .u64 (IntKind.wrap .u64 (b1))), (.int .u64 31)] H17 (by kernel_rfl) h ?_
    clear h
    rintro _ H20 ⟨r19, rfl, h⟩
    refine t_rem true .no .u64 (IntKind.wrap .u64 ((IntKind.wrap .u64 (r16 + r19)) + 7)) 2305843009213693951 H20 (by kernel_rfl) (by decide) ?_
    refine t_build true [(.int .i64 0), (.int .i64 0)] [] [] [(.int .i64 0), (.int .i64 0)] H20 (by kernel_rfl) (by kernel_rfl) ?_
    refine t_upd true 2 0 [(.int .i64 v7), (.int .i64 v8)] (.agg [(.int .i64 0), (.int .i64 0)]) [(.int .i64 0), (.int .i64 0)] [(.int .i64 0), (.int .i64 0)] H20 (by kernel_rfl) rfl (all_c rfl (all_c rfl all_n)) ⟨rfl, Nat.le_of_ble_eq_true (by kernel_rfl), rfl⟩ ?_
    refine t_done [(.int .i64 a0), (.int .i64 b1), (.int .i64 (IntKind.wrap .i64 ((Int.tmod (IntKind.wrap .u64 ((IntKind.wrap .u64 (r16 + r19)) + 7)) 2305843009213693951)))), (.agg [(.int .i64 0), (.int .i64 0)]), (.int .i64 v9), (.bool (decide (v9 < 2))), (.agg [(.int .i64 a0), (.int .i64 b1)]), d11, d12, d13] H20 (by kernel_rfl) ?_
    refine then_norm ?_
    refine w_ret ?_
    exact body_ret (vs := [(.int .i64 (IntKind.wrap .i64 ((Int.tmod (IntKind.wrap .u64 ((IntKind.wrap .u64 (r16 + r19)) + 7)) 2305843009213693951)))), (.agg [(.int .i64 0), (.int .i64 0)])]) _ (by kernel_rfl) rfl h

end Go.RM

