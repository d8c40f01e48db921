/-
  The functions of package canary, as the abstract machine runs them.
-/
import Derived.Test.YtebpodfildpgbaaCanRf
import Derived.Test.YtebpodfildpgbaaPlCh
import Derived.Test.YtebpodfildpgbaaRmHeap
namespace Go.Proofs.Ytebpodfildpgbaa
open Go.RM
noncomputable abbrev FT := tableU Try.prog

/-- The row of n, filled up to place k. -/
def rowC (n k : Nat) : List AV := (List.range (n + 1)).map fun j => .int .i64 (if j ≤ k then (ch n j : Nat) else 0)
theorem rowC_len (n k : Nat) : (rowC n k).length = n + 1 := by simp [rowC]
theorem rowC_get (n k j : Nat) (hj : j ≤ n) : (rowC n k)[j]? = some (.int .i64 (if j ≤ k then (ch n j : Nat) else 0)) := by
  simp [rowC, List.getElem?_range (show j < n + 1 by omega)]
theorem rowC_set (n k : Nat) (hk : k + 1 ≤ n) : splice (rowC n k) (k + 1) [.int .i64 (ch n (k + 1) : Nat)] = rowC n (k + 1) := by
  refine splice_map (by omega) (by simp) fun j hj hne => ?_
  by_cases h : j ≤ k
  · simp [h, show j ≤ k + 1 by omega]
  · simp [h, show ¬ j ≤ k + 1 by omega]
theorem rowC_zero (n : Nat) : splice (zeros (n + 1) [.int .i64 0]) 0 [.int .i64 1] = rowC n 0 := by
  rw [zeros_one]
  refine splice_map (by omega) (by simp [ch_zero]) fun j hj hne => ?_
  simp [show ¬ j ≤ 0 by omega]

def rowB (n k : Nat) : Blk := { cells := rowC n k, e := 1, live := true, clean := false }

theorem row_ret (n : Nat) (hn : n ≤ 50) (H : Heap) (fl : Nat) (hfl : fl ≤ H.length) : Ret FT fl 21 [.int .i64 n] H fun v H' => v = .slice H.length 0 (n + 1) (some (n + 1)) ∧ H' = H ++ [rowB n n] := by
  have hw : IntKind.i64.wrap ((n : Int) + 1) = ((n + 1 : Nat) : Int) := by rw [wrap64] <;> omega
  refine ret_intro t21 rfl ?_
  refine w_seq (w_done [.int .i64 n, .empty, .undef, .undef, .undef, .undef, .undef] H (by kernel_rfl) ?_)
  refine w_seq (w_list (s_make 1 8 [.int .i64 0] (IntKind.i64.wrap ((n : Int) + 1)) (IntKind.i64.wrap ((n : Int) + 1)) H (by kernel_rfl) (by rw [hw]; omega) ?_))
  rw [hw]
  refine s_done [.int .i64 n, .empty, .slice H.length 0 (n + 1) (some (n + 1)), .undef, .undef, .undef, .undef] (H ++ [{ cells := zeros (n + 1) [.int .i64 0], e := 1 }]) (by kernel_rfl) ?_
  refine w_seq (w_list (s_index 1 H.length 0 (n + 1) (some (n + 1)) .i64 0 (H ++ [{ cells := zeros (n + 1) [.int .i64 0], e := 1 }]) (by kernel_rfl) (by omega) (s_store 1 H.length 0 (.int .i64 1) _ (H ++ [{ cells := zeros (n + 1) [.int .i64 0], e := 1 }]) (by kernel_rfl) rfl (put_last hfl rfl (by simp [zeros, AV.cells]) rfl) ?_)))
  simp only [AV.cells, rowC_zero]
  refine s_done [.int .i64 n, .empty, .slice H.length 0 (n + 1) (some (n + 1)), .undef, .undef, .undef, .undef] (H ++ [rowB n 0]) (by kernel_rfl) ?_
  refine w_seq (w_seq (w_done [.int .i64 n, .empty, .slice H.length 0 (n + 1) (some (n + 1)), .int .i64 0, .int .i64 n, .undef, .undef] (H ++ [rowB n 0]) (by kernel_rfl) ?_))
  refine w_block (w_loop (I := fun m E H' => ∃ k : Nat, k + m = n ∧ ∃ b5 k6, E = [.int .i64 n, .empty, .slice H.length 0 (n + 1) (some (n + 1)), .int .i64 k, .int .i64 n, b5, k6] ∧ H' = H ++ [rowB n k]) ?_ n ⟨0, by omega, _, _, rfl, rfl⟩)
  rintro m E H' ⟨k, hk, b5, k6, rfl, rfl⟩
  refine w_seq (w_done [.int .i64 n, .empty, .slice H.length 0 (n + 1) (some (n + 1)), .int .i64 k, .int .i64 n, .bool (decide ((k : Int) < n)), k6] (H ++ [rowB n k]) (by kernel_rfl) ?_)
  refine w_seq (w_cond (t := decide ((k : Int) < n)) rfl (fun h => ?_) (fun h => ?_))
  · have hkn : k < n := by simpa using h
    refine w_skip (w_seq (w_block (w_seq (w_done [.int .i64 n, .empty, .slice H.length 0 (n + 1) (some (n + 1)), .int .i64 k, .int .i64 n, .bool (decide ((k : Int) < n)), .int .i64 k] (H ++ [rowB n k]) (by kernel_rfl) ?_))))
    have hs := ch_step n k
    have hc := ch_le n k
    have h2n : 2 ^ n ≤ 2 ^ 50 := Nat.pow_le_pow_right (by omega) hn
    have hw1 : IntKind.i64.wrap ((k : Int) + 1) = ((k + 1 : Nat) : Int) := by rw [wrap64] <;> omega
    have hw2 : IntKind.i64.wrap ((n : Int) - k) = ((n - k : Nat) : Int) := by rw [wrap64] <;> omega
    have hb : ch n k * (n - k) ≤ 2 ^ 50 * 50 := Nat.mul_le_mul (Nat.le_trans hc h2n) (by omega)
    have hw3 : IntKind.i64.wrap ((ch n k : Int) * ((n - k : Nat) : Int)) = ((ch n k * (n - k) : Nat) : Int) := by rw [← Int.natCast_mul, wrap64] <;> omega
    have hq : (((ch n k * (n - k) : Nat) : Int)).tdiv ((k + 1 : Nat) : Int) = (ch n (k + 1) : Int) := by
      rw [← hs, Int.tdiv_eq_ediv_of_nonneg (by omega), Int.natCast_mul, Int.mul_ediv_cancel _ (by omega)]
    have hc1 := ch_le n (k + 1)
    have hw4 : IntKind.i64.wrap (ch n (k + 1) : Int) = (ch n (k + 1) : Int) := by rw [wrap64] <;> omega
    refine w_list (s_index 1 H.length 0 (n + 1) (some (n + 1)) .i64 k (H ++ [rowB n k]) (by kernel_rfl) (by omega) (s_load none H.length (0 + (k : Int).toNat * 1) (.int .i64 (ch n k : Nat)) (H ++ [rowB n k]) (by kernel_rfl) ?_ ?_))
    · rw [load_last rfl]; simp only [rowB, Int.toNat_natCast, Nat.zero_add, Nat.mul_one]; rw [rowC_get n k k (by omega)]; simp
    refine s_quo .no .i64 (IntKind.i64.wrap ((ch n k : Int) * IntKind.i64.wrap ((n : Int) - k))) (IntKind.i64.wrap ((k : Int) + 1)) (H ++ [rowB n k]) (by kernel_rfl) (by rw [hw1]; omega) ?_
    rw [hw1, hw2, hw3, hq, hw4]
    refine s_index 1 H.length 0 (n + 1) (some (n + 1)) .i64 (IntKind.i64.wrap ((k : Int) + 1)) (H ++ [rowB n k]) (by kernel_rfl) (by rw [hw1]; omega) ?_
    rw [hw1]
    refine s_store 1 H.length (0 + ((k + 1 : Nat) : Int).toNat * 1) (.int .i64 (ch n (k + 1) : Nat)) _ (H ++ [rowB n k]) (by kernel_rfl) rfl (put_last hfl rfl (by simp [rowB, rowC_len, AV.cells]; omega) rfl) ?_
    simp only [rowB, AV.cells, Int.toNat_natCast, Nat.zero_add, Nat.mul_one]
    rw [rowC_set n k (by omega)]
    refine s_done [.int .i64 n, .empty, .slice H.length 0 (n + 1) (some (n + 1)), .int .i64 k, .int .i64 n, .bool (decide ((k : Int) < n)), .int .i64 k] (H ++ [rowB n (k + 1)]) (by kernel_rfl) ?_
    refine w_done [.int .i64 n, .empty, .slice H.length 0 (n + 1) (some (n + 1)), .int .i64 (IntKind.i64.wrap ((k : Int) + 1)), .int .i64 n, .bool (decide ((k : Int) < n)), .int .i64 k] (H ++ [rowB n (k + 1)]) (by kernel_rfl) ?_
    rw [hw1]
    exact ⟨m - 1, by omega, k + 1, by omega, _, _, rfl, rfl⟩
  · have hkn : k = n := by simp at h; omega
    subst hkn
    refine w_exit ?_
    simp only [thenQ, loopQ, blockQ, if_true]
    refine w_seq (w_done [.int .i64 k, .slice H.length 0 (k + 1) (some (k + 1)), .slice H.length 0 (k + 1) (some (k + 1)), .int .i64 k, .int .i64 k, .bool (decide ((k : Int) < k)), k6] (H ++ [rowB k k]) (by kernel_rfl) ?_)
    exact w_ret ⟨_, rfl, rfl, rfl⟩
end Go.Proofs.Ytebpodfildpgbaa
