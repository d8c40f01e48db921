/-
  The functions of package canary, as the abstract machine runs them: tail.
-/
import Derived.Test.YtebpodfildpgbaaCanF1
namespace Go.Proofs.Ytebpodfildpgbaa
open Go.RM

def tombK : Blk := { cells := [], e := 1, live := false, clean := false }
def cnt (g b : Int) : AV := .agg [.int .i64 g, .int .i64 b]

theorem load_app {H : Heap} {sz : Option Nat} {b off : Nat} (hb : b < H.length) (more : Heap) : rload (H ++ more) sz b off = rload H sz b off := by
  unfold rload Heap.blk
  rw [List.getElem?_append_left hb]

theorem tl_none (B G m : Nat) : ∀ d, B + d < m + 1 → tl B G m d = 0
  | 0, _ => rfl
  | d + 1, h => by rw [tl, tl_none B G m d (by omega), ch_gt B (m - d) (by omega)]; simp

/-- The state of tail's loop. -/
def tE (g1 b1 g2 b2 : Nat) (L : Nat) (k acc : Int) (b9 b11 : AV) : List AV :=
  [cnt g1 b1, cnt g2 b2, .int .i64 0, .int .i64 0, cnt g2 b2, cnt g1 b1, .int .i64 k, .int .i64 ((g2 + b2 : Nat) : Int), .slice (L + 1) 0 (b1 + b2 + 1) (some (b1 + b2 + 1)), b9, .slice L 0 (g1 + g2 + 1) (some (g1 + g2 + 1)), b11, .int .i64 acc]

theorem min_eq (a b : Int) : (if b < a then b else a) = min a b := by omega

theorem tail_ret (g1 b1 g2 b2 : Nat) (h1 : g1 + b1 ≤ 25) (h2 : g2 + b2 ≤ 25) (H : Heap) (fl : Nat) (hfl : fl ≤ H.length) :
    Ret FT fl 19 [cnt g1 b1, cnt g2 b2] H fun v H' => v = .tuple [.int .i64 (tl (b1 + b2) (g1 + g2) (g2 + b2) (g2 + 1) : Nat), .int .i64 (ch (b1 + b2 + (g1 + g2)) (g2 + b2) : Nat)] ∧ ∃ more, H' = H ++ more := by
  have hn : IntKind.i64.wrap ((g2 : Int) + b2) = ((g2 + b2 : Nat) : Int) := by rw [wrap64] <;> omega
  have hG : IntKind.i64.wrap ((g1 : Int) + g2) = ((g1 + g2 : Nat) : Int) := by rw [wrap64] <;> omega
  have hB : IntKind.i64.wrap ((b1 : Int) + b2) = ((b1 + b2 : Nat) : Int) := by rw [wrap64] <;> omega
  have hall : tl (b1 + b2) (g1 + g2) (g2 + b2) (g2 + 1) ≤ ch (b1 + b2 + (g1 + g2)) (g2 + b2) := tl_le_all _ _ _ _ (by omega)
  have h50 : ch (b1 + b2 + (g1 + g2)) (g2 + b2) ≤ 2 ^ 50 := Nat.le_trans (ch_le _ _) (Nat.pow_le_pow_right (by omega) (by omega))
  refine ret_intro t19 rfl ?_
  refine w_seq (w_done [cnt g1 b1, cnt g2 b2, .int .i64 0, .int .i64 0, cnt g2 b2, cnt g1 b1, .undef, .undef, .undef, .undef, .undef, .undef, .undef] (H ++ [tombK] ++ [tombK]) (by kernel_rfl) ?_)
  have hlen2 : (H ++ [tombK] ++ [tombK]).length = H.length + 2 := by simp
  have happ : H ++ [tombK] ++ [tombK] = H ++ [tombK, tombK] := by simp
  generalize hH2 : H ++ [tombK] ++ [tombK] = H2 at *
  refine w_seq (w_done [cnt g1 b1, cnt g2 b2, .int .i64 0, .int .i64 0, cnt g2 b2, cnt g1 b1, .undef, .int .i64 (IntKind.i64.wrap ((g2 : Int) + b2)), .undef, .undef, .undef, .undef, .undef] H2 (by kernel_rfl) ?_)
  rw [hn]
  refine w_seq (w_list (s_call false 21 [.int .i64 (IntKind.i64.wrap ((g1 : Int) + g2))] H2 (by kernel_rfl) (by rw [hG]; exact row_ret (g1 + g2) (by omega) H2 _ (Nat.le_refl _)) ?_))
  rintro _ _ ⟨rfl, rfl⟩
  refine s_call true 21 [.int .i64 (IntKind.i64.wrap ((b1 : Int) + b2))] (H2 ++ [rowB (g1 + g2) (g1 + g2)]) (by kernel_rfl) (by rw [hB]; exact row_ret (b1 + b2) (by omega) (H2 ++ [rowB (g1 + g2) (g1 + g2)]) _ (by simp; omega)) ?_
  rintro _ _ ⟨rfl, rfl⟩
  have hlen3 : (H2 ++ [rowB (g1 + g2) (g1 + g2)]).length = H2.length + 1 := by simp
  generalize hH4 : H2 ++ [rowB (g1 + g2) (g1 + g2)] ++ [rowB (b1 + b2) (b1 + b2)] = H4
  rw [hlen3]
  have hlg : ∀ j : Nat, j ≤ g1 + g2 → rload H4 none H2.length j = some (.int .i64 (ch (g1 + g2) j : Nat)) := fun j hj => by
    rw [← hH4, load_app (by simp), load_last rfl]
    show (rowC _ _)[j]? = _
    rw [rowC_get _ _ _ hj]; simp [hj]
  have hlb : ∀ j : Nat, j ≤ b1 + b2 → rload H4 none (H2.length + 1) j = some (.int .i64 (ch (b1 + b2) j : Nat)) := fun j hj => by
    rw [← hH4, ← hlen3, load_last rfl]
    show (rowC _ _)[j]? = _
    rw [rowC_get _ _ _ hj]; simp [hj]
  refine s_done [cnt g1 b1, cnt g2 b2, .int .i64 0, .int .i64 0, cnt g2 b2, cnt g1 b1, .undef, .int .i64 ((g2 + b2 : Nat) : Int), .slice (H2.length + 1) 0 (b1 + b2 + 1) (some (b1 + b2 + 1)), .undef, .slice H2.length 0 (g1 + g2 + 1) (some (g1 + g2 + 1)), .undef, .undef] H4 (by kernel_rfl) ?_
  refine w_seq (w_done [cnt g1 b1, cnt g2 b2, .int .i64 0, .int .i64 0, cnt g2 b2, cnt g1 b1, .undef, .int .i64 ((g2 + b2 : Nat) : Int), .slice (H2.length + 1) 0 (b1 + b2 + 1) (some (b1 + b2 + 1)), .undef, .slice H2.length 0 (g1 + g2 + 1) (some (g1 + g2 + 1)), .undef, .int .i64 0] H4 (by kernel_rfl) ?_)
  refine w_seq (w_seq (w_done (tE g1 b1 g2 b2 H2.length b2 0 .undef .undef) H4 (by kernel_rfl) ?_))
  refine w_block (w_loop (I := fun m E H' => ∃ k acc : Nat, ∃ b9 b11, E = tE g1 b1 g2 b2 H2.length k acc b9 b11 ∧ H' = H4 ∧ k + m = g2 + b2 + 1 ∧ acc + tl (b1 + b2) (g1 + g2) (g2 + b2) m = tl (b1 + b2) (g1 + g2) (g2 + b2) (g2 + 1)) ?_ (g2 + 1) ⟨b2, 0, _, _, rfl, rfl, by omega, by omega⟩)
  rintro m E H' ⟨k, acc, b9, b11, rfl, rfl, hk, hacc⟩
  have hwb : IntKind.i64.wrap (((b1 + b2 + 1 : Nat) : Int) - 1) = ((b1 + b2 : Nat) : Int) := by rw [wrap64] <;> omega
  refine w_seq (w_seq (w_done (tE g1 b1 g2 b2 H2.length k acc (.bool (decide ((k : Int) ≤ (if IntKind.i64.wrap (((b1 + b2 + 1 : Nat) : Int) - 1) < ((g2 + b2 : Nat) : Int) then IntKind.i64.wrap (((b1 + b2 + 1 : Nat) : Int) - 1) else ((g2 + b2 : Nat) : Int))))) b11) H' (by kernel_rfl) ?_))
  rw [hwb, min_eq]
  refine w_cond (t := decide ((k : Int) ≤ min ((g2 + b2 : Nat) : Int) ((b1 + b2 : Nat) : Int))) rfl (fun h => ?_) (fun h => ?_)
  · have hkk : k ≤ g2 + b2 ∧ k ≤ b1 + b2 := by simp at h; omega
    obtain ⟨m', rfl⟩ : ∃ m', m = m' + 1 := ⟨m - 1, by omega⟩
    have hm' : g2 + b2 - m' = k := by omega
    have htl : tl (b1 + b2) (g1 + g2) (g2 + b2) (m' + 1) = ch (b1 + b2) k * ch (g1 + g2) m' + tl (b1 + b2) (g1 + g2) (g2 + b2) m' := by rw [tl, hm']
    have hw1 : IntKind.i64.wrap (((g2 + b2 : Nat) : Int) - k) = (m' : Int) := by rw [wrap64] <;> omega
    have hwk : IntKind.i64.wrap ((k : Int) + 1) = ((k + 1 : Nat) : Int) := by rw [wrap64] <;> omega
    refine w_skip (w_seq (w_block (w_seq (w_done (tE g1 b1 g2 b2 H2.length k acc (.bool (decide ((k : Int) ≤ min ((g2 + b2 : Nat) : Int) ((b1 + b2 : Nat) : Int)))) (.bool (decide (IntKind.i64.wrap (((g2 + b2 : Nat) : Int) - k) < ((g1 + g2 + 1 : Nat) : Int))))) H' (by kernel_rfl) ?_))))
    rw [hw1]
    refine w_cond (t := decide ((m' : Int) < ((g1 + g2 + 1 : Nat) : Int))) rfl (fun h' => ?_) (fun h' => ?_)
    · have hmg : m' ≤ g1 + g2 := by simp at h'; omega
      have hp : IntKind.i64.wrap ((ch (b1 + b2) k : Int) * (ch (g1 + g2) m' : Int)) = ((ch (b1 + b2) k * ch (g1 + g2) m' : Nat) : Int) := by rw [← Int.natCast_mul, wrap64] <;> omega
      have hs : IntKind.i64.wrap ((acc : Int) + ((ch (b1 + b2) k * ch (g1 + g2) m' : Nat) : Int)) = ((acc + ch (b1 + b2) k * ch (g1 + g2) m' : Nat) : Int) := by rw [wrap64] <;> omega
      refine w_list (s_index 1 (H2.length + 1) 0 (b1 + b2 + 1) (some (b1 + b2 + 1)) .i64 k H' (by kernel_rfl) (by omega) (s_load none (H2.length + 1) (0 + (k : Int).toNat * 1) (.int .i64 (ch (b1 + b2) k : Nat)) H' (by kernel_rfl) (by rw [Int.toNat_natCast, Nat.zero_add, Nat.mul_one]; exact hlb k hkk.2) ?_))
      refine s_index 1 H2.length 0 (g1 + g2 + 1) (some (g1 + g2 + 1)) .i64 (IntKind.i64.wrap (((g2 + b2 : Nat) : Int) - k)) H' (by kernel_rfl) (by rw [hw1]; omega) ?_
      rw [hw1]
      refine s_load none H2.length (0 + (m' : Int).toNat * 1) (.int .i64 (ch (g1 + g2) m' : Nat)) H' (by kernel_rfl) (by rw [Int.toNat_natCast, Nat.zero_add, Nat.mul_one]; exact hlg m' hmg) ?_
      refine s_done (tE g1 b1 g2 b2 H2.length k (IntKind.i64.wrap ((acc : Int) + IntKind.i64.wrap ((ch (b1 + b2) k : Int) * (ch (g1 + g2) m' : Int)))) (.bool (decide ((k : Int) ≤ min ((g2 + b2 : Nat) : Int) ((b1 + b2 : Nat) : Int)))) (.bool (decide ((m' : Int) < ((g1 + g2 + 1 : Nat) : Int))))) H' (by kernel_rfl) ?_
      rw [hp, hs]
      refine w_done (tE g1 b1 g2 b2 H2.length (IntKind.i64.wrap ((k : Int) + 1)) ((acc + ch (b1 + b2) k * ch (g1 + g2) m' : Nat) : Int) (.bool (decide ((k : Int) ≤ min ((g2 + b2 : Nat) : Int) ((b1 + b2 : Nat) : Int)))) (.bool (decide ((m' : Int) < ((g1 + g2 + 1 : Nat) : Int))))) H' (by kernel_rfl) ?_
      rw [hwk]
      exact ⟨m', by omega, k + 1, _, _, _, rfl, rfl, by omega, by omega⟩
    · have hmg : g1 + g2 < m' := by simp at h'; omega
      have h0 : ch (g1 + g2) m' = 0 := ch_gt _ _ hmg
      rw [h0, Nat.mul_zero, Nat.zero_add] at htl
      refine w_skip ?_
      refine w_done (tE g1 b1 g2 b2 H2.length (IntKind.i64.wrap ((k : Int) + 1)) acc (.bool (decide ((k : Int) ≤ min ((g2 + b2 : Nat) : Int) ((b1 + b2 : Nat) : Int)))) (.bool (decide ((m' : Int) < ((g1 + g2 + 1 : Nat) : Int))))) H' (by kernel_rfl) ?_
      rw [hwk]
      exact ⟨m', by omega, k + 1, acc, _, _, rfl, rfl, by omega, by omega⟩
  · have hkk : ¬ (k ≤ g2 + b2 ∧ k ≤ b1 + b2) := by simp at h; omega
    have hz : tl (b1 + b2) (g1 + g2) (g2 + b2) m = 0 := by
      by_cases hm0 : m = 0
      · subst hm0; rfl
      · exact tl_none _ _ _ _ (by omega)
    have hacc' : acc = tl (b1 + b2) (g1 + g2) (g2 + b2) (g2 + 1) := by omega
    refine w_exit ?_
    simp only [thenQ, loopQ, blockQ, if_true]
    have hw3 : IntKind.i64.wrap (((g1 + g2 + 1 : Nat) : Int) + ((b1 + b2 + 1 : Nat) : Int)) = ((g1 + g2 + 1 + (b1 + b2 + 1) : Nat) : Int) := by rw [wrap64] <;> omega
    have hw4 : IntKind.i64.wrap (((g1 + g2 + 1 + (b1 + b2 + 1) : Nat) : Int) - 2) = ((b1 + b2 + (g1 + g2) : Nat) : Int) := by rw [wrap64] <;> omega
    refine w_seq (w_list (s_call true 21 [.int .i64 (IntKind.i64.wrap (IntKind.i64.wrap (((g1 + g2 + 1 : Nat) : Int) + ((b1 + b2 + 1 : Nat) : Int)) - 2))] H' (by kernel_rfl) (by rw [hw3, hw4]; exact row_ret (b1 + b2 + (g1 + g2)) (by omega) H' _ (by rw [← hH4]; simp; omega)) ?_))
    rintro _ _ ⟨rfl, rfl⟩
    refine s_index 1 H'.length 0 (b1 + b2 + (g1 + g2) + 1) (some (b1 + b2 + (g1 + g2) + 1)) .i64 ((g2 + b2 : Nat) : Int) (H' ++ [rowB (b1 + b2 + (g1 + g2)) (b1 + b2 + (g1 + g2))]) (by kernel_rfl) (by omega) ?_
    refine s_load none H'.length (0 + ((g2 + b2 : Nat) : Int).toNat * 1) (.int .i64 (ch (b1 + b2 + (g1 + g2)) (g2 + b2) : Nat)) (H' ++ [rowB (b1 + b2 + (g1 + g2)) (b1 + b2 + (g1 + g2))]) (by kernel_rfl) (by
      rw [Int.toNat_natCast, Nat.zero_add, Nat.mul_one, load_last rfl]
      show (rowC _ _)[_]? = _
      rw [rowC_get _ _ _ (by omega)]; simp [show g2 + b2 ≤ b1 + b2 + (g1 + g2) by omega]) ?_
    refine s_done [cnt g1 b1, cnt g2 b2, .int .i64 acc, .int .i64 (ch (b1 + b2 + (g1 + g2)) (g2 + b2) : Nat), cnt g2 b2, cnt g1 b1, .int .i64 k, .int .i64 ((g2 + b2 : Nat) : Int), .slice (H2.length + 1) 0 (b1 + b2 + 1) (some (b1 + b2 + 1)), .bool (decide ((k : Int) ≤ min ((g2 + b2 : Nat) : Int) ((b1 + b2 : Nat) : Int))), .slice H2.length 0 (g1 + g2 + 1) (some (g1 + g2 + 1)), b11, .int .i64 acc] (H' ++ [rowB (b1 + b2 + (g1 + g2)) (b1 + b2 + (g1 + g2))]) (by kernel_rfl) ?_
    refine w_ret ⟨_, rfl, ?_⟩
    rw [hacc']
    refine ⟨rfl, ?_⟩
    rw [← hH4, ← hH2]
    exact ⟨_, by simp only [List.append_assoc]; rfl⟩

end Go.Proofs.Ytebpodfildpgbaa
