/-
  The example of the canary laws, as the abstract machine runs it.
-/
import Derived.Test.YtebpodfildpgbaaCanF5
namespace Go.Proofs.Ytebpodfildpgbaa
open Go.RM

theorem ex1 : tailV 1 0 0 1 = .tuple [.int .i64 1, .int .i64 2, flt 0 0] := by kernel_rfl

theorem ex2 : decV 20 0 0 20 5 50 = .tuple [.int .i64 3, flt 0 0] := by
  have h : verd 20 0 0 20 5 50 = 3 := by
    unfold verd
    have h1 : tl (0 + 20) (20 + 0) (0 + 20) (0 + 1) = 1 := by simp [tl, ch_self, ch_zero]
    have h2 := ch_ge 40 20 (by omega) (by omega)
    rw [h1, if_pos]
    show ((1 : Nat) : Int) * 1000 ≤ (ch 40 20 : Int) * 50
    omega
  have e : decV 20 0 0 20 5 50 = .tuple [.int .i64 (verd 20 0 0 20 5 50), flt 0 0] := by kernel_rfl
  rw [e, h]

theorem ex3 : decV 20 0 2 0 5 50 = .tuple [.int .i64 1, flt 0 0] := by
  have h : verd 20 0 2 0 5 50 = 1 := by
    unfold verd
    have h1 : tl (0 + 0) (20 + 2) (2 + 0) (2 + 1) = ch 22 2 := tl_all 22 0 2
    have h2 := ch_ge 22 2 (by omega) (by omega)
    rw [h1, if_neg, if_pos]
    · decide
    · show ¬ (ch 22 2 : Int) * 1000 ≤ (ch 22 2 : Int) * 50
      omega
  have e : decV 20 0 2 0 5 50 = .tuple [.int .i64 (verd 20 0 2 0 5 50), flt 0 0] := by kernel_rfl
  rw [e, h]

theorem ex4 : tolV 9 0 7 0 = .tuple [.int .i64 7, flt 0 0] := by
  have h : verd 9 0 0 7 0 0 = 2 := by
    unfold verd
    have h1 : tl (0 + 7) (9 + 0) (0 + 7) (0 + 1) = 1 := by simp [tl, ch_self, ch_zero]
    rw [h1, if_neg, if_neg]
    · decide
    · omega
  have h7 : tolF 9 0 7 0 7 = 7 := by
    show (if verd 9 0 (7 - 7) 7 0 0 = 2 then 7 else tolF 9 0 7 0 6) = 7
    rw [if_pos h]
  have e : tolV 9 0 7 0 = .tuple [.int .i64 (tolF 9 0 7 0 7 : Nat), flt 0 0] := by kernel_rfl
  rw [e, h7]; rfl

def exE (r a b d w t e1 e2 e3 e4 : AV) : List AV := [r, a, b, d, w, t, e1, e2, e3, e4]

theorem example_ret (H : Heap) (fl : Nat) (hfl : fl ≤ H.length) : Ret FT fl 11 [] H fun v H' => v = .bool true ∧ ∃ more, H' = H ++ more := by
  refine ret_intro t11 rfl ?_
  refine w_seq (w_done (exE (.bool false) .undef .undef .undef .undef .undef .undef .undef .undef .undef) H (by kernel_rfl) ?_)
  refine w_seq (w_list (s_call true 8 [cnt 1 0, cnt 0 1] H (by kernel_rfl) (Tail_ret 1 0 0 1 H _ hfl) ?_))
  rintro _ _ ⟨rfl, m1, rfl⟩
  rw [ex1]
  have hl1 : fl ≤ (H ++ m1 ++ [tombK]).length := by simp; omega
  refine s_done (exE (.bool false) (.int .i64 1) (.int .i64 2) .undef .undef .undef (flt 0 0) .undef .undef .undef) (H ++ m1 ++ [tombK]) (by kernel_rfl) ?_
  refine w_seq (w_list (s_call true 9 [cnt 20 0, cnt 0 20, .int .i64 5, .int .i64 50] (H ++ m1 ++ [tombK]) (by kernel_rfl) (Decide_ret 20 0 0 20 5 50 _ _ hl1) ?_))
  rintro _ _ ⟨rfl, m2, rfl⟩
  rw [ex2]
  have hl2 : fl ≤ (H ++ m1 ++ [tombK] ++ m2 ++ [tombK]).length := by simp; omega
  refine s_done (exE (.bool false) (.int .i64 1) (.int .i64 2) (.int .i64 3) .undef .undef (flt 0 0) (flt 0 0) .undef .undef) (H ++ m1 ++ [tombK] ++ m2 ++ [tombK]) (by kernel_rfl) ?_
  refine w_seq (w_list (s_call true 9 [cnt 20 0, cnt 2 0, .int .i64 5, .int .i64 50] (H ++ m1 ++ [tombK] ++ m2 ++ [tombK]) (by kernel_rfl) (Decide_ret 20 0 2 0 5 50 _ _ hl2) ?_))
  rintro _ _ ⟨rfl, m3, rfl⟩
  rw [ex3]
  have hl3 : fl ≤ (H ++ m1 ++ [tombK] ++ m2 ++ [tombK] ++ m3 ++ [tombK]).length := by simp; omega
  refine s_done (exE (.bool false) (.int .i64 1) (.int .i64 2) (.int .i64 3) (.int .i64 1) .undef (flt 0 0) (flt 0 0) (flt 0 0) .undef) (H ++ m1 ++ [tombK] ++ m2 ++ [tombK] ++ m3 ++ [tombK]) (by kernel_rfl) ?_
  refine w_seq (w_list (s_call true 10 [cnt 9 0, .int .i64 7, .int .i64 0] (H ++ m1 ++ [tombK] ++ m2 ++ [tombK] ++ m3 ++ [tombK]) (by kernel_rfl) (Tolerated_ret 9 0 7 0 _ _ hl3) ?_))
  rintro _ _ ⟨rfl, m4, rfl⟩
  rw [ex4]
  refine s_done (exE (.bool false) (.int .i64 1) (.int .i64 2) (.int .i64 3) (.int .i64 1) (.int .i64 7) (flt 0 0) (flt 0 0) (flt 0 0) (flt 0 0)) (H ++ m1 ++ [tombK] ++ m2 ++ [tombK] ++ m3 ++ [tombK] ++ m4 ++ [tombK]) (by kernel_rfl) ?_
  refine w_seq (w_done (exE (.bool true) (.int .i64 1) (.int .i64 2) (.int .i64 3) (.int .i64 1) (.int .i64 7) (flt 0 0) (flt 0 0) (flt 0 0) (flt 0 0)) (H ++ m1 ++ [tombK] ++ m2 ++ [tombK] ++ m3 ++ [tombK] ++ m4 ++ [tombK]) (by kernel_rfl) ?_)
  exact w_ret ⟨_, rfl, rfl, _, by simp only [List.append_assoc]; rfl⟩

end Go.Proofs.Ytebpodfildpgbaa
