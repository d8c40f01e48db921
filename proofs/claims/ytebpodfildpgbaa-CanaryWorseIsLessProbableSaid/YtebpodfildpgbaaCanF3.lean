/-
  The functions of package canary, as the abstract machine runs them: Validate, two, Tail.
-/
import Derived.Test.YtebpodfildpgbaaCanF2
namespace Go.Proofs.Ytebpodfildpgbaa
open Go.RM

def flt (c i : Int) : AV := .agg [.int .i64 c, .int .i64 i]
def badB (g b : Int) : Bool := decide (g < 0) || decide (b < 0) || decide (g > 25) || decide (b > 25) || decide (IntKind.i64.wrap (g + b) > 25)
def fltV (g b : Int) : AV := if badB g b = true then flt 3 (-1) else flt 0 0

theorem badB_false {g b : Int} (h : badB g b = false) : ∃ g' b' : Nat, g = g' ∧ b = b' ∧ g' + b' ≤ 25 := by
  simp only [badB, Bool.or_eq_false_iff, decide_eq_false_iff_not] at h
  obtain ⟨⟨⟨⟨h1, h2⟩, h3⟩, h4⟩, h5⟩ := h
  rw [wrap64 (by omega) (by omega)] at h5
  exact ⟨g.toNat, b.toNat, by omega, by omega, by omega⟩
theorem badB_nat {g b : Nat} (h : g + b ≤ 25) : badB g b = false := by
  simp only [badB, Bool.or_eq_false_iff, decide_eq_false_iff_not]
  rw [wrap64 (by omega) (by omega)]
  omega

theorem validate_ret (g b : Int) (H : Heap) (fl : Nat) : Ret FT fl 12 [cnt g b] H fun v H' => v = fltV g b ∧ ∃ more, H' = H ++ more := by
  refine ret_intro t12 rfl ?_
  refine w_seq (w_done [cnt g b, flt 0 0, cnt g b, .undef] (H ++ [tombK] ++ [tombK]) (by kernel_rfl) ?_)
  refine w_seq (w_seq (w_done [cnt g b, flt 0 0, cnt g b, .bool (badB g b)] (H ++ [tombK] ++ [tombK]) (by kernel_rfl) ?_))
  refine w_cond (t := badB g b) rfl (fun h => ?_) (fun h => ?_)
  · refine w_seq (w_done [cnt g b, flt 3 (-1), cnt g b, .bool (badB g b)] (H ++ [tombK] ++ [tombK]) (by kernel_rfl) ?_)
    refine w_ret ⟨_, rfl, ?_⟩
    rw [fltV, if_pos h]
    exact ⟨rfl, _, List.append_assoc _ _ _⟩
  · refine w_skip ?_
    refine w_seq (w_done [cnt g b, flt 0 0, cnt g b, .bool (badB g b)] (H ++ [tombK] ++ [tombK]) (by kernel_rfl) ?_)
    refine w_ret ⟨_, rfl, ?_⟩
    rw [fltV, if_neg (by rw [h]; simp)]
    exact ⟨rfl, _, List.append_assoc _ _ _⟩

def twoV (g1 b1 g2 b2 : Int) : AV := if badB g1 b1 = true then flt 3 (-1) else if badB g2 b2 = true then flt 3 (-2) else flt 0 0

theorem two_ret (g1 b1 g2 b2 : Int) (H : Heap) (fl : Nat) : Ret FT fl 18 [cnt g1 b1, cnt g2 b2] H fun v H' => v = twoV g1 b1 g2 b2 ∧ ∃ more, H' = H ++ more := by
  refine ret_intro t18 rfl ?_
  refine w_seq (w_done [cnt g1 b1, cnt g2 b2, flt 0 0, cnt g1 b1, .undef, .undef, cnt g2 b2, .undef, .undef] (H ++ [tombK] ++ [tombK] ++ [tombK]) (by kernel_rfl) ?_)
  refine w_seq (w_seq (w_list (s_call true 12 [cnt g1 b1] (H ++ [tombK] ++ [tombK] ++ [tombK]) (by kernel_rfl) (validate_ret g1 b1 _ _) ?_)))
  rintro _ _ ⟨rfl, m1, rfl⟩
  by_cases hb1 : badB g1 b1 = true
  · rw [fltV, if_pos hb1]
    refine s_done [cnt g1 b1, cnt g2 b2, flt 0 0, cnt g1 b1, flt 3 (-1), .undef, cnt g2 b2, .undef, .undef] (H ++ [tombK] ++ [tombK] ++ [tombK] ++ m1 ++ [tombK]) (by kernel_rfl) ?_
    refine w_seq (w_done [cnt g1 b1, cnt g2 b2, flt 0 0, cnt g1 b1, flt 3 (-1), .bool true, cnt g2 b2, .undef, .undef] (H ++ [tombK] ++ [tombK] ++ [tombK] ++ m1 ++ [tombK]) (by kernel_rfl) ?_)
    refine w_cond (t := true) rfl (fun _ => ?_) (fun h => by cases h)
    refine w_seq (w_done [cnt g1 b1, cnt g2 b2, flt 3 (-1), cnt g1 b1, flt 3 (-1), .bool true, cnt g2 b2, .undef, .undef] (H ++ [tombK] ++ [tombK] ++ [tombK] ++ m1 ++ [tombK]) (by kernel_rfl) ?_)
    refine w_ret ⟨_, rfl, ?_⟩
    rw [twoV, if_pos hb1]
    exact ⟨rfl, _, by simp only [List.append_assoc]; rfl⟩
  · rw [fltV, if_neg hb1]
    refine s_done [cnt g1 b1, cnt g2 b2, flt 0 0, cnt g1 b1, flt 0 0, .undef, cnt g2 b2, .undef, .undef] (H ++ [tombK] ++ [tombK] ++ [tombK] ++ m1 ++ [tombK]) (by kernel_rfl) ?_
    refine w_seq (w_done [cnt g1 b1, cnt g2 b2, flt 0 0, cnt g1 b1, flt 0 0, .bool false, cnt g2 b2, .undef, .undef] (H ++ [tombK] ++ [tombK] ++ [tombK] ++ m1 ++ [tombK]) (by kernel_rfl) ?_)
    refine w_cond (t := false) rfl (fun h => by cases h) (fun _ => ?_)
    refine w_skip ?_
    refine w_seq (w_seq (w_list (s_call true 12 [cnt g2 b2] (H ++ [tombK] ++ [tombK] ++ [tombK] ++ m1 ++ [tombK]) (by kernel_rfl) (validate_ret g2 b2 _ _) ?_)))
    rintro _ _ ⟨rfl, m2, rfl⟩
    by_cases hb2 : badB g2 b2 = true
    · rw [fltV, if_pos hb2]
      refine s_done [cnt g1 b1, cnt g2 b2, flt 0 0, cnt g1 b1, flt 0 0, .bool false, cnt g2 b2, flt 3 (-1), .undef] (H ++ [tombK] ++ [tombK] ++ [tombK] ++ m1 ++ [tombK] ++ m2 ++ [tombK]) (by kernel_rfl) ?_
      refine w_seq (w_done [cnt g1 b1, cnt g2 b2, flt 0 0, cnt g1 b1, flt 0 0, .bool false, cnt g2 b2, flt 3 (-1), .bool true] (H ++ [tombK] ++ [tombK] ++ [tombK] ++ m1 ++ [tombK] ++ m2 ++ [tombK]) (by kernel_rfl) ?_)
      refine w_cond (t := true) rfl (fun _ => ?_) (fun h => by cases h)
      refine w_seq (w_done [cnt g1 b1, cnt g2 b2, flt 3 (-2), cnt g1 b1, flt 0 0, .bool false, cnt g2 b2, flt 3 (-1), .bool true] (H ++ [tombK] ++ [tombK] ++ [tombK] ++ m1 ++ [tombK] ++ m2 ++ [tombK]) (by kernel_rfl) ?_)
      refine w_ret ⟨_, rfl, ?_⟩
      rw [twoV, if_neg hb1, if_pos hb2]
      exact ⟨rfl, _, by simp only [List.append_assoc]; rfl⟩
    · rw [fltV, if_neg hb2]
      refine s_done [cnt g1 b1, cnt g2 b2, flt 0 0, cnt g1 b1, flt 0 0, .bool false, cnt g2 b2, flt 0 0, .undef] (H ++ [tombK] ++ [tombK] ++ [tombK] ++ m1 ++ [tombK] ++ m2 ++ [tombK]) (by kernel_rfl) ?_
      refine w_seq (w_done [cnt g1 b1, cnt g2 b2, flt 0 0, cnt g1 b1, flt 0 0, .bool false, cnt g2 b2, flt 0 0, .bool false] (H ++ [tombK] ++ [tombK] ++ [tombK] ++ m1 ++ [tombK] ++ m2 ++ [tombK]) (by kernel_rfl) ?_)
      refine w_cond (t := false) rfl (fun h => by cases h) (fun _ => ?_)
      refine w_skip ?_
      refine w_seq (w_done [cnt g1 b1, cnt g2 b2, flt 0 0, cnt g1 b1, flt 0 0, .bool false, cnt g2 b2, flt 0 0, .bool false] (H ++ [tombK] ++ [tombK] ++ [tombK] ++ m1 ++ [tombK] ++ m2 ++ [tombK]) (by kernel_rfl) ?_)
      refine w_ret ⟨_, rfl, ?_⟩
      rw [twoV, if_neg hb1, if_neg hb2]
      exact ⟨rfl, _, by simp only [List.append_assoc]; rfl⟩

/-- What Tail returns. -/
def tailV (g1 b1 g2 b2 : Int) : AV :=
  if badB g1 b1 = true then .tuple [.int .i64 0, .int .i64 0, flt 3 (-1)] else if badB g2 b2 = true then .tuple [.int .i64 0, .int .i64 0, flt 3 (-2)] else
  .tuple [.int .i64 (tl (b1.toNat + b2.toNat) (g1.toNat + g2.toNat) (g2.toNat + b2.toNat) (g2.toNat + 1) : Nat), .int .i64 (ch (b1.toNat + b2.toNat + (g1.toNat + g2.toNat)) (g2.toNat + b2.toNat) : Nat), flt 0 0]

theorem Tail_ret (g1 b1 g2 b2 : Int) (H : Heap) (fl : Nat) (hfl : fl ≤ H.length) : Ret FT fl 8 [cnt g1 b1, cnt g2 b2] H fun v H' => v = tailV g1 b1 g2 b2 ∧ ∃ more, H' = H ++ more := by
  refine ret_intro t8 rfl ?_
  have hl4 : fl ≤ (H ++ [tombK] ++ [tombK] ++ [tombK]).length := by simp; omega
  have ha : H ++ [tombK] ++ [tombK] ++ [tombK] = H ++ [tombK, tombK, tombK] := by simp
  refine w_seq (w_done [cnt g1 b1, cnt g2 b2, .int .i64 0, .int .i64 0, flt 0 0, cnt g1 b1, cnt g2 b2, .undef, .undef, .undef, .undef] (H ++ [tombK] ++ [tombK] ++ [tombK]) (by kernel_rfl) ?_)
  generalize hHa : H ++ [tombK] ++ [tombK] ++ [tombK] = Ha at *
  refine w_seq (w_list (s_call true 18 [cnt g1 b1, cnt g2 b2] Ha (by kernel_rfl) (two_ret g1 b1 g2 b2 _ _) ?_))
  rintro _ _ ⟨rfl, m1, rfl⟩
  by_cases hb1 : badB g1 b1 = true
  · rw [twoV, if_pos hb1]
    refine s_done [cnt g1 b1, cnt g2 b2, .int .i64 0, .int .i64 0, flt 0 0, cnt g1 b1, cnt g2 b2, flt 3 (-1), .undef, .undef, .undef] (Ha ++ m1 ++ [tombK]) (by kernel_rfl) ?_
    refine w_seq (w_seq (w_done [cnt g1 b1, cnt g2 b2, .int .i64 0, .int .i64 0, flt 0 0, cnt g1 b1, cnt g2 b2, flt 3 (-1), .bool true, .undef, .undef] (Ha ++ m1 ++ [tombK]) (by kernel_rfl) ?_))
    refine w_cond (t := true) rfl (fun _ => ?_) (fun h => by cases h)
    refine w_seq (w_done [cnt g1 b1, cnt g2 b2, .int .i64 0, .int .i64 0, flt 3 (-1), cnt g1 b1, cnt g2 b2, flt 3 (-1), .bool true, .undef, .undef] (Ha ++ m1 ++ [tombK]) (by kernel_rfl) ?_)
    refine w_ret ⟨_, rfl, ?_⟩
    rw [tailV, if_pos hb1]
    exact ⟨rfl, _, by rw [ha]; simp only [List.append_assoc]; rfl⟩
  · by_cases hb2 : badB g2 b2 = true
    · rw [twoV, if_neg hb1, if_pos hb2]
      refine s_done [cnt g1 b1, cnt g2 b2, .int .i64 0, .int .i64 0, flt 0 0, cnt g1 b1, cnt g2 b2, flt 3 (-2), .undef, .undef, .undef] (Ha ++ m1 ++ [tombK]) (by kernel_rfl) ?_
      refine w_seq (w_seq (w_done [cnt g1 b1, cnt g2 b2, .int .i64 0, .int .i64 0, flt 0 0, cnt g1 b1, cnt g2 b2, flt 3 (-2), .bool true, .undef, .undef] (Ha ++ m1 ++ [tombK]) (by kernel_rfl) ?_))
      refine w_cond (t := true) rfl (fun _ => ?_) (fun h => by cases h)
      refine w_seq (w_done [cnt g1 b1, cnt g2 b2, .int .i64 0, .int .i64 0, flt 3 (-2), cnt g1 b1, cnt g2 b2, flt 3 (-2), .bool true, .undef, .undef] (Ha ++ m1 ++ [tombK]) (by kernel_rfl) ?_)
      refine w_ret ⟨_, rfl, ?_⟩
      rw [tailV, if_neg hb1, if_pos hb2]
      exact ⟨rfl, _, by rw [ha]; simp only [List.append_assoc]; rfl⟩
    · rw [twoV, if_neg hb1, if_neg hb2, tailV, if_neg hb1, if_neg hb2]
      obtain ⟨G1, B1, rfl, rfl, h1⟩ := badB_false (Bool.eq_false_iff.2 hb1)
      obtain ⟨G2, B2, rfl, rfl, h2⟩ := badB_false (Bool.eq_false_iff.2 hb2)
      simp only [Int.toNat_natCast]
      refine s_done [cnt G1 B1, cnt G2 B2, .int .i64 0, .int .i64 0, flt 0 0, cnt G1 B1, cnt G2 B2, flt 0 0, .undef, .undef, .undef] (Ha ++ m1 ++ [tombK]) (by kernel_rfl) ?_
      refine w_seq (w_seq (w_done [cnt G1 B1, cnt G2 B2, .int .i64 0, .int .i64 0, flt 0 0, cnt G1 B1, cnt G2 B2, flt 0 0, .bool false, .undef, .undef] (Ha ++ m1 ++ [tombK]) (by kernel_rfl) ?_))
      refine w_cond (t := false) rfl (fun h => by cases h) (fun _ => ?_)
      refine w_skip ?_
      refine w_seq (w_list (s_call true 19 [cnt G1 B1, cnt G2 B2] (Ha ++ m1 ++ [tombK]) (by kernel_rfl) (tail_ret G1 B1 G2 B2 h1 h2 _ _ (by simp; omega)) ?_))
      rintro _ _ ⟨rfl, m2, rfl⟩
      generalize tl (B1 + B2) (G1 + G2) (G2 + B2) (G2 + 1) = w
      generalize ch (B1 + B2 + (G1 + G2)) (G2 + B2) = a
      refine s_done [cnt G1 B1, cnt G2 B2, .int .i64 0, .int .i64 0, flt 0 0, cnt G1 B1, cnt G2 B2, flt 0 0, .bool false, .int .i64 w, .int .i64 a] (Ha ++ m1 ++ [tombK] ++ m2) (by kernel_rfl) ?_
      refine w_seq (w_done [cnt G1 B1, cnt G2 B2, .int .i64 w, .int .i64 a, flt 0 0, cnt G1 B1, cnt G2 B2, flt 0 0, .bool false, .int .i64 w, .int .i64 a] (Ha ++ m1 ++ [tombK] ++ m2) (by kernel_rfl) ?_)
      refine w_ret ⟨_, rfl, rfl, _, by rw [ha]; simp only [List.append_assoc]; rfl⟩

end Go.Proofs.Ytebpodfildpgbaa
