/-
  The functions of package canary, as the abstract machine runs them: Decide.
-/
import Derived.Test.YtebpodfildpgbaaCanF3
namespace Go.Proofs.Ytebpodfildpgbaa
open Go.RM

theorem w_mid {F : Nat → Option RFunc} {fl : Nat} {a b : RCode} {E : List AV} {H : Heap} {Q : Out → List AV → Heap → Prop} (M : List AV → Heap → Prop) (h : Wp F fl a E H fun o E' H' => o = .normal ∧ M E' H') (hb : ∀ E' H', M E' H' → Wp F fl b E' H' Q) : Wp F fl (.seq a b) E H Q :=
  w_seq (h.mono fun o E' H' ⟨ho, hm⟩ => by subst ho; exact hb E' H' hm)

def badN (need pm : Int) : Bool := decide (need < 0) || decide (need > 25) || decide (pm < 0) || decide (pm ≥ 1000)

def decF (g1 b1 g2 b2 need pm : Int) : AV := if badB g1 b1 = true then flt 3 (-1) else if badB g2 b2 = true then flt 3 (-2) else if badN need pm = true then flt 3 (-3) else flt 0 0

/-- The state of Decide. -/
def dE (g1 b1 g2 b2 need pm : Int) (r rf f b9 b10 w a b13 b14 : AV) : List AV :=
  [cnt g1 b1, cnt g2 b2, .int .i64 need, .int .i64 pm, r, rf, cnt g1 b1, cnt g2 b2, f, b9, b10, w, a, b13, b14]

/-- What Decide decides of valid sides: 3 fails, 1 waits, 2 passes. -/
def verd (G1 B1 G2 B2 : Nat) (need pm : Int) : Int :=
  if (tl (B1 + B2) (G1 + G2) (G2 + B2) (G2 + 1) : Int) * 1000 ≤ (ch (B1 + B2 + (G1 + G2)) (G2 + B2) : Int) * pm then 3 else if ((G2 + B2 : Nat) : Int) < need then 1 else 2

def decV (g1 b1 g2 b2 need pm : Int) : AV :=
  if badB g1 b1 = true then .tuple [.int .i64 0, flt 3 (-1)] else if badB g2 b2 = true then .tuple [.int .i64 0, flt 3 (-2)] else if badN need pm = true then .tuple [.int .i64 0, flt 3 (-3)] else
  .tuple [.int .i64 (verd g1.toNat b1.toNat g2.toNat b2.toNat need pm), flt 0 0]

theorem Decide_ret (g1 b1 g2 b2 need pm : Int) (H : Heap) (fl : Nat) (hfl : fl ≤ H.length) : Ret FT fl 9 [cnt g1 b1, cnt g2 b2, .int .i64 need, .int .i64 pm] H fun v H' => v = decV g1 b1 g2 b2 need pm ∧ ∃ more, H' = H ++ more := by
  refine ret_intro t9 rfl ?_
  refine w_seq (w_done (dE g1 b1 g2 b2 need pm (.int .i64 0) (flt 0 0) .undef .undef .undef .undef .undef .undef .undef) (H ++ [tombK] ++ [tombK] ++ [tombK]) (by kernel_rfl) ?_)
  have ha : H ++ [tombK] ++ [tombK] ++ [tombK] = H ++ [tombK, tombK, tombK] := by simp
  generalize hHa : H ++ [tombK] ++ [tombK] ++ [tombK] = Ha at *
  refine w_seq (w_list (s_call true 18 [cnt g1 b1, cnt g2 b2] Ha (by kernel_rfl) (two_ret g1 b1 g2 b2 _ _) ?_))
  rintro _ _ ⟨rfl, m1, rfl⟩
  have hb : ∃ mb, Ha ++ m1 ++ [tombK] = H ++ mb := ⟨_, by rw [ha]; simp only [List.append_assoc]; rfl⟩
  have hbl : fl ≤ (Ha ++ m1 ++ [tombK]).length := by rw [ha]; simp; omega
  by_cases hb1 : badB g1 b1 = true
  · rw [twoV, if_pos hb1, decV, if_pos hb1]
    refine s_done (dE g1 b1 g2 b2 need pm (.int .i64 0) (flt 0 0) (flt 3 (-1)) .undef .undef .undef .undef .undef .undef) (Ha ++ m1 ++ [tombK]) (by kernel_rfl) ?_
    generalize Ha ++ m1 ++ [tombK] = Hb at *
    refine w_seq (w_seq (w_done (dE g1 b1 g2 b2 need pm (.int .i64 0) (flt 0 0) (flt 3 (-1)) (.bool false) .undef .undef .undef .undef .undef) Hb (by kernel_rfl) ?_))
    refine w_cond (t := false) rfl (fun h => by cases h) (fun _ => w_skip ?_)
    refine w_seq (w_seq (w_done (dE g1 b1 g2 b2 need pm (.int .i64 0) (flt 0 0) (flt 3 (-1)) (.bool false) (.bool true) .undef .undef .undef .undef) Hb (by kernel_rfl) ?_))
    refine w_cond (t := true) rfl (fun _ => ?_) (fun h => by cases h)
    refine w_seq (w_done (dE g1 b1 g2 b2 need pm (.int .i64 0) (flt 3 (-1)) (flt 3 (-1)) (.bool false) (.bool true) .undef .undef .undef .undef) Hb (by kernel_rfl) ?_)
    exact w_ret ⟨_, rfl, rfl, hb⟩
  · by_cases hb2 : badB g2 b2 = true
    · rw [twoV, if_neg hb1, if_pos hb2, decV, if_neg hb1, if_pos hb2]
      refine s_done (dE g1 b1 g2 b2 need pm (.int .i64 0) (flt 0 0) (flt 3 (-2)) .undef .undef .undef .undef .undef .undef) (Ha ++ m1 ++ [tombK]) (by kernel_rfl) ?_
      generalize Ha ++ m1 ++ [tombK] = Hb at *
      refine w_seq (w_seq (w_done (dE g1 b1 g2 b2 need pm (.int .i64 0) (flt 0 0) (flt 3 (-2)) (.bool false) .undef .undef .undef .undef .undef) Hb (by kernel_rfl) ?_))
      refine w_cond (t := false) rfl (fun h => by cases h) (fun _ => w_skip ?_)
      refine w_seq (w_seq (w_done (dE g1 b1 g2 b2 need pm (.int .i64 0) (flt 0 0) (flt 3 (-2)) (.bool false) (.bool true) .undef .undef .undef .undef) Hb (by kernel_rfl) ?_))
      refine w_cond (t := true) rfl (fun _ => ?_) (fun h => by cases h)
      refine w_seq (w_done (dE g1 b1 g2 b2 need pm (.int .i64 0) (flt 3 (-2)) (flt 3 (-2)) (.bool false) (.bool true) .undef .undef .undef .undef) Hb (by kernel_rfl) ?_)
      exact w_ret ⟨_, rfl, rfl, hb⟩
    · rw [twoV, if_neg hb1, if_neg hb2, decV, if_neg hb1, if_neg hb2]
      refine s_done (dE g1 b1 g2 b2 need pm (.int .i64 0) (flt 0 0) (flt 0 0) .undef .undef .undef .undef .undef .undef) (Ha ++ m1 ++ [tombK]) (by kernel_rfl) ?_
      generalize Ha ++ m1 ++ [tombK] = Hb at *
      refine w_seq (w_seq (w_done (dE g1 b1 g2 b2 need pm (.int .i64 0) (flt 0 0) (flt 0 0) (.bool (badN need pm)) .undef .undef .undef .undef .undef) Hb (by kernel_rfl) ?_))
      refine w_cond (t := badN need pm) rfl (fun hn => ?_) (fun hn => w_skip ?_)
      · rw [if_pos hn]
        refine w_done (dE g1 b1 g2 b2 need pm (.int .i64 0) (flt 0 0) (flt 3 (-3)) (.bool (badN need pm)) .undef .undef .undef .undef .undef) Hb (by kernel_rfl) ?_
        refine w_seq (w_seq (w_done (dE g1 b1 g2 b2 need pm (.int .i64 0) (flt 0 0) (flt 3 (-3)) (.bool (badN need pm)) (.bool true) .undef .undef .undef .undef) Hb (by kernel_rfl) ?_))
        refine w_cond (t := true) rfl (fun _ => ?_) (fun h => by cases h)
        refine w_seq (w_done (dE g1 b1 g2 b2 need pm (.int .i64 0) (flt 3 (-3)) (flt 3 (-3)) (.bool (badN need pm)) (.bool true) .undef .undef .undef .undef) Hb (by kernel_rfl) ?_)
        exact w_ret ⟨_, rfl, rfl, hb⟩
      · rw [if_neg (by rw [hn]; simp)]
        have hpm : 0 ≤ pm ∧ pm < 1000 := by
          simp only [badN, Bool.or_eq_false_iff, decide_eq_false_iff_not] at hn; omega
        refine w_seq (w_seq (w_done (dE g1 b1 g2 b2 need pm (.int .i64 0) (flt 0 0) (flt 0 0) (.bool (badN need pm)) (.bool false) .undef .undef .undef .undef) Hb (by kernel_rfl) ?_))
        refine w_cond (t := false) rfl (fun h => by cases h) (fun _ => w_skip ?_)
        obtain ⟨G1, B1, rfl, rfl, h1⟩ := badB_false (Bool.eq_false_iff.2 hb1)
        obtain ⟨G2, B2, rfl, rfl, h2⟩ := badB_false (Bool.eq_false_iff.2 hb2)
        simp only [Int.toNat_natCast, verd]
        refine w_seq (w_seq (w_list (s_call true 19 [cnt G1 B1, cnt G2 B2] Hb (by kernel_rfl) (tail_ret G1 B1 G2 B2 h1 h2 _ _ hbl) ?_)))
        rintro _ _ ⟨rfl, m2, rfl⟩
        obtain ⟨mb, rfl⟩ := hb
        have hm2 : ∃ mb', H ++ mb ++ m2 = H ++ mb' := ⟨_, List.append_assoc _ _ _⟩
        have hwa : tl (B1 + B2) (G1 + G2) (G2 + B2) (G2 + 1) ≤ ch (B1 + B2 + (G1 + G2)) (G2 + B2) := tl_le_all _ _ _ _ (by omega)
        have h50 : ch (B1 + B2 + (G1 + G2)) (G2 + B2) ≤ 2 ^ 50 := Nat.le_trans (ch_le _ _) (Nat.pow_le_pow_right (by omega) (by omega))
        have hwn : IntKind.i64.wrap ((G2 : Int) + B2) = ((G2 + B2 : Nat) : Int) := by rw [wrap64] <;> omega
        generalize tl (B1 + B2) (G1 + G2) (G2 + B2) (G2 + 1) = w at *
        generalize ch (B1 + B2 + (G1 + G2)) (G2 + B2) = a at *
        have hw1 : IntKind.i64.wrap ((w : Int) * 1000) = (w : Int) * 1000 := wrap64 (by omega) (by omega)
        have hap : 0 ≤ (a : Int) * pm ∧ (a : Int) * pm ≤ 2 ^ 50 * 1000 := ⟨Int.mul_nonneg (by omega) hpm.1, Int.mul_le_mul (by omega) (by omega) hpm.1 (by omega)⟩
        have hw2 : IntKind.i64.wrap ((a : Int) * pm) = (a : Int) * pm := wrap64 (by omega) (by omega)
        generalize H ++ mb ++ m2 = Hc at *
        refine s_done (dE G1 B1 G2 B2 need pm (.int .i64 0) (flt 0 0) (flt 0 0) (.bool (badN need pm)) (.bool false) (.int .i64 w) (.int .i64 a) .undef .undef) Hc (by kernel_rfl) ?_
        refine w_block (w_seq (w_done (dE G1 B1 G2 B2 need pm (.int .i64 0) (flt 0 0) (flt 0 0) (.bool (badN need pm)) (.bool false) (.int .i64 w) (.int .i64 a) (.bool (decide (IntKind.i64.wrap ((w : Int) * 1000) ≤ IntKind.i64.wrap ((a : Int) * pm)))) .undef) Hc (by kernel_rfl) ?_))
        rw [hw1, hw2]
        refine w_cond (t := decide ((w : Int) * 1000 ≤ (a : Int) * pm)) rfl (fun h => ?_) (fun h => ?_)
        · rw [if_pos (of_decide_eq_true h)]
          refine w_seq (w_done (dE G1 B1 G2 B2 need pm (.int .i64 3) (flt 0 0) (flt 0 0) (.bool (badN need pm)) (.bool false) (.int .i64 w) (.int .i64 a) (.bool (decide ((w : Int) * 1000 ≤ (a : Int) * pm))) .undef) Hc (by kernel_rfl) ?_)
          exact w_ret ⟨_, rfl, rfl, hm2⟩
        · rw [if_neg (of_decide_eq_false h)]
          refine w_seq (w_done (dE G1 B1 G2 B2 need pm (.int .i64 0) (flt 0 0) (flt 0 0) (.bool (badN need pm)) (.bool false) (.int .i64 w) (.int .i64 a) (.bool (decide ((w : Int) * 1000 ≤ (a : Int) * pm))) (.bool (decide (IntKind.i64.wrap ((G2 : Int) + B2) < need)))) Hc (by kernel_rfl) ?_)
          rw [hwn]
          refine w_cond (t := decide (((G2 + B2 : Nat) : Int) < need)) rfl (fun h' => ?_) (fun h' => w_skip ?_)
          · rw [if_pos (of_decide_eq_true h')]
            refine w_seq (w_done (dE G1 B1 G2 B2 need pm (.int .i64 1) (flt 0 0) (flt 0 0) (.bool (badN need pm)) (.bool false) (.int .i64 w) (.int .i64 a) (.bool (decide ((w : Int) * 1000 ≤ (a : Int) * pm))) (.bool (decide (((G2 + B2 : Nat) : Int) < need)))) Hc (by kernel_rfl) ?_)
            exact w_ret ⟨_, rfl, rfl, hm2⟩
          · rw [if_neg (of_decide_eq_false h')]
            refine w_seq (w_done (dE G1 B1 G2 B2 need pm (.int .i64 2) (flt 0 0) (flt 0 0) (.bool (badN need pm)) (.bool false) (.int .i64 w) (.int .i64 a) (.bool (decide ((w : Int) * 1000 ≤ (a : Int) * pm))) (.bool (decide (((G2 + B2 : Nat) : Int) < need)))) Hc (by kernel_rfl) ?_)
            exact w_ret ⟨_, rfl, rfl, hm2⟩

end Go.Proofs.Ytebpodfildpgbaa
