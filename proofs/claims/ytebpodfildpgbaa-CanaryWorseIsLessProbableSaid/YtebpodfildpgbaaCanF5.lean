/-
  The functions of package canary, as the abstract machine runs them: Tolerated.
-/
import Derived.Test.YtebpodfildpgbaaCanF4
namespace Go.Proofs.Ytebpodfildpgbaa
open Go.RM

/-- How many bad ones of n are tolerated, of at most k. -/
def tolF (G B n : Nat) (pm : Int) : Nat → Nat
  | 0 => 0
  | k + 1 => if verd G B (n - (k + 1)) (k + 1) 0 pm = 2 then k + 1 else tolF G B n pm k

def badS (n : Int) : Bool := decide (n < 0) || decide (n > 25)
def badP (pm : Int) : Bool := decide (pm < 0) || decide (pm ≥ 1000)

def tolV (g b n pm : Int) : AV :=
  if badB g b = true then .tuple [.int .i64 0, flt 3 (-1)] else if badS n = true then .tuple [.int .i64 0, flt 3 (-2)] else if badP pm = true then .tuple [.int .i64 0, flt 3 (-3)] else
  .tuple [.int .i64 (tolF g.toNat b.toNat n.toNat pm n.toNat : Nat), flt 0 0]

/-- The state of Tolerated. -/
def lE (g b n pm : Int) (r rf f b7 b8 b9 bad b11 d b13 : AV) : List AV := [cnt g b, .int .i64 n, .int .i64 pm, r, rf, cnt g b, f, b7, b8, b9, bad, b11, d, b13]

theorem Tolerated_ret (g b n pm : Int) (H : Heap) (fl : Nat) (hfl : fl ≤ H.length) : Ret FT fl 10 [cnt g b, .int .i64 n, .int .i64 pm] H fun v H' => v = tolV g b n pm ∧ ∃ more, H' = H ++ more := by
  refine ret_intro t10 rfl ?_
  refine w_seq (w_done (lE g b n pm (.int .i64 0) (flt 0 0) .undef .undef .undef .undef .undef .undef .undef .undef) (H ++ [tombK] ++ [tombK]) (by kernel_rfl) ?_)
  refine w_seq (w_list (s_call true 12 [cnt g b] (H ++ [tombK] ++ [tombK]) (by kernel_rfl) (validate_ret g b _ _) ?_))
  rintro _ _ ⟨rfl, m1, rfl⟩
  have hb : ∃ mb, H ++ [tombK] ++ [tombK] ++ m1 ++ [tombK] = H ++ mb := ⟨_, by simp only [List.append_assoc]; rfl⟩
  -- what is done where there is a fault
  by_cases hb1 : badB g b = true
  · rw [fltV, if_pos hb1, tolV, if_pos hb1]
    refine s_done (lE g b n pm (.int .i64 0) (flt 0 0) (flt 3 (-1)) .undef .undef .undef .undef .undef .undef .undef) (H ++ [tombK] ++ [tombK] ++ m1 ++ [tombK]) (by kernel_rfl) ?_
    generalize H ++ [tombK] ++ [tombK] ++ m1 ++ [tombK] = Hb at *
    refine w_seq (w_seq (w_done (lE g b n pm (.int .i64 0) (flt 0 0) (flt 3 (-1)) (.bool false) .undef .undef .undef .undef .undef .undef) Hb (by kernel_rfl) ?_))
    refine w_cond (t := false) rfl (fun h => by cases h) (fun _ => w_skip ?_)
    refine w_seq (w_seq (w_done (lE g b n pm (.int .i64 0) (flt 0 0) (flt 3 (-1)) (.bool false) (.bool false) .undef .undef .undef .undef .undef) Hb (by kernel_rfl) ?_))
    refine w_cond (t := false) rfl (fun h => by cases h) (fun _ => w_skip ?_)
    refine w_seq (w_seq (w_done (lE g b n pm (.int .i64 0) (flt 0 0) (flt 3 (-1)) (.bool false) (.bool false) (.bool true) .undef .undef .undef .undef) Hb (by kernel_rfl) ?_))
    refine w_cond (t := true) rfl (fun _ => ?_) (fun h => by cases h)
    refine w_seq (w_done (lE g b n pm (.int .i64 0) (flt 3 (-1)) (flt 3 (-1)) (.bool false) (.bool false) (.bool true) .undef .undef .undef .undef) Hb (by kernel_rfl) ?_)
    exact w_ret ⟨_, rfl, rfl, hb⟩
  rw [fltV, if_neg hb1, tolV, if_neg hb1]
  refine s_done (lE g b n pm (.int .i64 0) (flt 0 0) (flt 0 0) .undef .undef .undef .undef .undef .undef .undef) (H ++ [tombK] ++ [tombK] ++ m1 ++ [tombK]) (by kernel_rfl) ?_
  have hbl : fl ≤ (H ++ [tombK] ++ [tombK] ++ m1 ++ [tombK]).length := by simp; omega
  generalize H ++ [tombK] ++ [tombK] ++ m1 ++ [tombK] = Hb at *
  refine w_seq (w_seq (w_done (lE g b n pm (.int .i64 0) (flt 0 0) (flt 0 0) (.bool (badS n)) .undef .undef .undef .undef .undef .undef) Hb (by kernel_rfl) ?_))
  refine w_cond (t := badS n) rfl (fun hn => ?_) (fun hn => w_skip ?_)
  · rw [if_pos hn]
    refine w_done (lE g b n pm (.int .i64 0) (flt 0 0) (flt 3 (-2)) (.bool (badS n)) .undef .undef .undef .undef .undef .undef) Hb (by kernel_rfl) ?_
    refine w_seq (w_seq (w_done (lE g b n pm (.int .i64 0) (flt 0 0) (flt 3 (-2)) (.bool (badS n)) (.bool false) .undef .undef .undef .undef .undef) Hb (by kernel_rfl) ?_))
    refine w_cond (t := false) rfl (fun h => by cases h) (fun _ => w_skip ?_)
    refine w_seq (w_seq (w_done (lE g b n pm (.int .i64 0) (flt 0 0) (flt 3 (-2)) (.bool (badS n)) (.bool false) (.bool true) .undef .undef .undef .undef) Hb (by kernel_rfl) ?_))
    refine w_cond (t := true) rfl (fun _ => ?_) (fun h => by cases h)
    refine w_seq (w_done (lE g b n pm (.int .i64 0) (flt 3 (-2)) (flt 3 (-2)) (.bool (badS n)) (.bool false) (.bool true) .undef .undef .undef .undef) Hb (by kernel_rfl) ?_)
    exact w_ret ⟨_, rfl, rfl, hb⟩
  rw [if_neg (by rw [hn]; simp)]
  refine w_seq (w_seq (w_done (lE g b n pm (.int .i64 0) (flt 0 0) (flt 0 0) (.bool (badS n)) (.bool (badP pm)) .undef .undef .undef .undef .undef) Hb (by kernel_rfl) ?_))
  refine w_cond (t := badP pm) rfl (fun hp => ?_) (fun hp => w_skip ?_)
  · rw [if_pos hp]
    refine w_done (lE g b n pm (.int .i64 0) (flt 0 0) (flt 3 (-3)) (.bool (badS n)) (.bool (badP pm)) .undef .undef .undef .undef .undef) Hb (by kernel_rfl) ?_
    refine w_seq (w_seq (w_done (lE g b n pm (.int .i64 0) (flt 0 0) (flt 3 (-3)) (.bool (badS n)) (.bool (badP pm)) (.bool true) .undef .undef .undef .undef) Hb (by kernel_rfl) ?_))
    refine w_cond (t := true) rfl (fun _ => ?_) (fun h => by cases h)
    refine w_seq (w_done (lE g b n pm (.int .i64 0) (flt 3 (-3)) (flt 3 (-3)) (.bool (badS n)) (.bool (badP pm)) (.bool true) .undef .undef .undef .undef) Hb (by kernel_rfl) ?_)
    exact w_ret ⟨_, rfl, rfl, hb⟩
  rw [if_neg (by rw [hp]; simp)]
  obtain ⟨G, B, rfl, rfl, h1⟩ := badB_false (Bool.eq_false_iff.2 hb1)
  obtain ⟨N, rfl, hN⟩ : ∃ N : Nat, n = N ∧ N ≤ 25 := by
    simp only [badS, Bool.or_eq_false_iff, decide_eq_false_iff_not] at hn
    exact ⟨n.toNat, by omega, by omega⟩
  have hbn : badN 0 pm = false := by
    simp only [badP, Bool.or_eq_false_iff, decide_eq_false_iff_not] at hp
    simp only [badN, Bool.or_eq_false_iff, decide_eq_false_iff_not]; omega
  simp only [Int.toNat_natCast]
  refine w_seq (w_seq (w_done (lE G B N pm (.int .i64 0) (flt 0 0) (flt 0 0) (.bool (badS N)) (.bool (badP pm)) (.bool false) .undef .undef .undef .undef) Hb (by kernel_rfl) ?_))
  refine w_cond (t := false) rfl (fun h => by cases h) (fun _ => w_skip ?_)
  refine w_seq (w_done (lE G B N pm (.int .i64 0) (flt 0 0) (flt 0 0) (.bool (badS N)) (.bool (badP pm)) (.bool false) (.int .i64 N) .undef .undef .undef) Hb (by kernel_rfl) ?_)
  refine w_seq (w_block (w_loop (I := fun m E H' => m ≤ N ∧ ∃ b11 d b13, E = lE G B N pm (.int .i64 0) (flt 0 0) (flt 0 0) (.bool (badS N)) (.bool (badP pm)) (.bool false) (.int .i64 m) b11 d b13 ∧ (∃ more, H' = H ++ more) ∧ fl ≤ H'.length ∧ tolF G B N pm N = tolF G B N pm m) ?_ N ⟨Nat.le_refl _, _, _, _, rfl, hb, hbl, rfl⟩))
  rintro k E H' ⟨hk, b11, d, b13, rfl, hH', hl', htol⟩
  refine w_seq (w_seq (w_done (lE G B N pm (.int .i64 0) (flt 0 0) (flt 0 0) (.bool (badS N)) (.bool (badP pm)) (.bool false) (.int .i64 k) (.bool (decide ((k : Int) > 0))) d b13) H' (by kernel_rfl) ?_))
  have fin : ∀ (bad : Nat) (b11 d b13 : AV) (H'' : Heap), (∃ more, H'' = H ++ more) → tolF G B N pm N = bad → Wp FT fl (.seq (.ops [⟨.move (.var 10), none, none, false⟩, ⟨.field 0 (some 2) (.var 6), none, none, true⟩, ⟨.move (.loc 0), none, (some 3), false⟩, ⟨.upd 2 0 (.var 4) (.loc 1), none, (some 4), true⟩]) .ret)
      (lE G B N pm (.int .i64 0) (flt 0 0) (flt 0 0) (.bool (badS N)) (.bool (badP pm)) (.bool false) (.int .i64 bad) b11 d b13) H'' (bodyQ rf10 fun v H' => v = .tuple [.int .i64 (tolF G B N pm N : Nat), flt 0 0] ∧ ∃ more, H' = H ++ more) := fun bad b11 d b13 H'' hm ht => by
    refine w_seq (w_done (lE G B N pm (.int .i64 bad) (flt 0 0) (flt 0 0) (.bool (badS N)) (.bool (badP pm)) (.bool false) (.int .i64 bad) b11 d b13) H'' (by kernel_rfl) ?_)
    exact w_ret ⟨_, rfl, by rw [ht]; rfl, hm⟩
  refine w_cond (t := decide ((k : Int) > 0)) rfl (fun h => w_skip ?_) (fun h => w_exit ?_)
  · obtain ⟨j, rfl⟩ : ∃ j, k = j + 1 := ⟨k - 1, by simp at h; omega⟩
    have hwk : IntKind.i64.wrap ((N : Int) - ((j + 1 : Nat) : Int)) = ((N - (j + 1) : Nat) : Int) := by rw [wrap64] <;> omega
    have hwj : IntKind.i64.wrap (((j + 1 : Nat) : Int) - 1) = (j : Int) := by rw [wrap64] <;> omega
    refine w_block (w_seq (w_seq (w_list (s_call true 9 [cnt G B, cnt (IntKind.i64.wrap ((N : Int) - ((j + 1 : Nat) : Int))) ((j + 1 : Nat) : Int), .int .i64 0, .int .i64 pm] H' (by kernel_rfl) (Decide_ret G B _ _ 0 pm H' _ hl') ?_))))
    rintro _ _ ⟨rfl, m2, rfl⟩
    rw [hwk, decV, if_neg hb1, if_neg (by rw [badB_nat (by omega)]; simp), if_neg (by rw [hbn]; simp)]
    simp only [Int.toNat_natCast]
    have hl2 : fl ≤ (H' ++ m2).length := by simp; omega
    have hm2 : ∃ more, H' ++ m2 = H ++ more := by obtain ⟨more, rfl⟩ := hH'; exact ⟨_, List.append_assoc _ _ _⟩
    generalize hHc : H' ++ m2 = Hc at *
    refine s_store 2 Hc.length 0 (flt 0 0) _ (Hc ++ [{ cells := [.int .i64 0, .int .i64 0], e := 1 }]) (by kernel_rfl) rfl (put_last hl2 rfl (by simp [flt, AV.cells]) rfl) ?_
    have hm3 : ∃ more, Hc ++ [{ cells := splice [.int .i64 0, .int .i64 0] 0 (flt 0 0).cells, e := 1, live := true, clean := false : Blk }] = H ++ more := by obtain ⟨more, rfl⟩ := hm2; exact ⟨_, List.append_assoc _ _ _⟩
    have hl3 : fl ≤ (Hc ++ [{ cells := splice [.int .i64 0, .int .i64 0] 0 (flt 0 0).cells, e := 1, live := true, clean := false : Blk }]).length := by simp; omega
    generalize hHd : Hc ++ [{ cells := splice [.int .i64 0, .int .i64 0] 0 (flt 0 0).cells, e := 1, live := true, clean := false : Blk }] = Hd at *
    rw [tolF] at htol
    generalize verd G B (N - (j + 1)) (j + 1) 0 pm = x at *
    refine s_done (lE G B N pm (.int .i64 0) (flt 0 0) (flt 0 0) (.bool (badS N)) (.bool (badP pm)) (.bool false) (.int .i64 ((j + 1 : Nat) : Int)) (.bool (decide (((j + 1 : Nat) : Int) > 0))) (.int .i64 x) b13) Hd (by kernel_rfl) ?_
    refine w_seq (w_done (lE G B N pm (.int .i64 0) (flt 0 0) (flt 0 0) (.bool (badS N)) (.bool (badP pm)) (.bool false) (.int .i64 ((j + 1 : Nat) : Int)) (.bool (decide (((j + 1 : Nat) : Int) > 0))) (.int .i64 x) (.bool (x == 2))) Hd (by kernel_rfl) ?_)
    refine w_cond (t := x == 2) rfl (fun hx => w_exit ?_) (fun hx => w_skip ?_)
    · have hx2 : x = 2 := by simpa using hx
      rw [if_pos hx2] at htol
      simp only [thenQ, loopQ, blockQ, if_true, Nat.zero_ne_one, if_false]
      exact fin (j + 1) _ _ _ _ hm3 htol
    · have hx2 : x ≠ 2 := by simpa using hx
      rw [if_neg hx2] at htol
      refine w_done (lE G B N pm (.int .i64 0) (flt 0 0) (flt 0 0) (.bool (badS N)) (.bool (badP pm)) (.bool false) (.int .i64 (IntKind.i64.wrap (((j + 1 : Nat) : Int) - 1))) (.bool (decide (((j + 1 : Nat) : Int) > 0))) (.int .i64 x) (.bool (x == 2))) Hd (by kernel_rfl) ?_
      rw [hwj]
      exact ⟨j, by omega, by omega, _, _, _, rfl, hm3, hl3, htol⟩
  · have hk0 : k = 0 := by simp at h; omega
    subst hk0
    simp only [thenQ, loopQ, blockQ, if_true]
    exact fin 0 _ _ _ _ hH' htol

end Go.Proofs.Ytebpodfildpgbaa
