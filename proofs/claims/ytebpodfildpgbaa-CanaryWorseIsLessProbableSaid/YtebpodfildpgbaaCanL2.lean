/-
  CanaryWorseIsLessProbable answers true, as the abstract machine runs it.
-/
import Derived.Test.YtebpodfildpgbaaCanF6
namespace Go.Proofs.Ytebpodfildpgbaa
open Go.RM

def tA (g1 b1 g2 b2 : Int) : Int := if badB g1 b1 = true then 0 else if badB g2 b2 = true then 0 else (tl (b1.toNat + b2.toNat) (g1.toNat + g2.toNat) (g2.toNat + b2.toNat) (g2.toNat + 1) : Nat)
def tN (g1 b1 g2 b2 : Int) : Int := if badB g1 b1 = true then 0 else if badB g2 b2 = true then 0 else (ch (b1.toNat + b2.toNat + (g1.toNat + g2.toNat)) (g2.toNat + b2.toNat) : Nat)
def tC (g1 b1 g2 b2 : Int) : Int := if badB g1 b1 = true then 3 else if badB g2 b2 = true then 3 else 0
def tI (g1 b1 g2 b2 : Int) : Int := if badB g1 b1 = true then -1 else if badB g2 b2 = true then -2 else 0

theorem tailV_eq (g1 b1 g2 b2 : Int) : tailV g1 b1 g2 b2 = .tuple [.int .i64 (tA g1 b1 g2 b2), .int .i64 (tN g1 b1 g2 b2), flt (tC g1 b1 g2 b2) (tI g1 b1 g2 b2)] := by
  unfold tailV tA tN tC tI
  split
  · rfl
  · split <;> rfl

theorem tC_zero {g1 b1 g2 b2 : Int} (h : tC g1 b1 g2 b2 = 0) : ∃ G1 B1 G2 B2 : Nat, g1 = G1 ∧ b1 = B1 ∧ g2 = G2 ∧ b2 = B2 ∧ G1 + B1 ≤ 25 ∧ G2 + B2 ≤ 25 := by
  unfold tC at h
  split at h
  · omega
  · rename_i h1
    split at h
    · omega
    · rename_i h2
      obtain ⟨G1, B1, e1, e2, e3⟩ := badB_false (Bool.eq_false_iff.2 h1)
      obtain ⟨G2, B2, f1, f2, f3⟩ := badB_false (Bool.eq_false_iff.2 h2)
      exact ⟨G1, B1, G2, B2, e1, e2, f1, f2, e3, f3⟩

theorem tA_nat {G1 B1 G2 B2 : Nat} (h1 : G1 + B1 ≤ 25) (h2 : G2 + B2 ≤ 25) : tA G1 B1 G2 B2 = (tl (B1 + B2) (G1 + G2) (G2 + B2) (G2 + 1) : Nat) := by
  unfold tA; rw [if_neg (by rw [badB_nat h1]; simp), if_neg (by rw [badB_nat h2]; simp)]; rfl
theorem tN_nat {G1 B1 G2 B2 : Nat} (h1 : G1 + B1 ≤ 25) (h2 : G2 + B2 ≤ 25) : tN G1 B1 G2 B2 = (ch (B1 + B2 + (G1 + G2)) (G2 + B2) : Nat) := by
  unfold tN; rw [if_neg (by rw [badB_nat h1]; simp), if_neg (by rw [badB_nat h2]; simp)]; rfl
theorem tC_nat {G1 B1 G2 B2 : Nat} (h1 : G1 + B1 ≤ 25) (h2 : G2 + B2 ≤ 25) : tC G1 B1 G2 B2 = 0 := by
  unfold tC; rw [if_neg (by rw [badB_nat h1]; simp), if_neg (by rw [badB_nat h2]; simp)]

theorem tl_pos (B1 G1 B2 G2 : Nat) : 0 < tl (B1 + B2) (G1 + G2) (G2 + B2) (G2 + 1) := by
  rw [tl]
  have h1 := ch_pos (B1 + B2) (G2 + B2 - G2) (by omega)
  have h2 := ch_pos (G1 + G2) G2 (by omega)
  have := Nat.mul_pos h1 h2
  omega

/-- The plain law. -/
theorem worse_law {g1 b1 g2 b2 : Int} (h : tC g1 b1 g2 b2 = 0) (r2 : -9223372036854775808 ≤ g2 ∧ g2 ≤ 9223372036854775807) :
    (decide (tN g1 b1 g2 b2 ≤ 0) || decide (tA g1 b1 g2 b2 ≤ 0) || decide (tA g1 b1 g2 b2 > tN g1 b1 g2 b2)) = false ∧
    ((tC g1 b1 (IntKind.i64.wrap (g2 - 1)) (IntKind.i64.wrap (b2 + 1)) != 0 || (tN g1 b1 g2 b2 == tN g1 b1 (IntKind.i64.wrap (g2 - 1)) (IntKind.i64.wrap (b2 + 1)) && decide (tA g1 b1 (IntKind.i64.wrap (g2 - 1)) (IntKind.i64.wrap (b2 + 1)) ≤ tA g1 b1 g2 b2))) &&
     (tC (IntKind.i64.wrap (g1 - 1)) (IntKind.i64.wrap (b1 + 1)) g2 b2 != 0 || (tN g1 b1 g2 b2 == tN (IntKind.i64.wrap (g1 - 1)) (IntKind.i64.wrap (b1 + 1)) g2 b2 && decide (tA (IntKind.i64.wrap (g1 - 1)) (IntKind.i64.wrap (b1 + 1)) g2 b2 ≥ tA g1 b1 g2 b2)))) = true := by
  obtain ⟨G1, B1, G2, B2, rfl, rfl, rfl, rfl, h1, h2⟩ := tC_zero h
  have hp := tl_pos B1 G1 B2 G2
  have hle : tl (B1 + B2) (G1 + G2) (G2 + B2) (G2 + 1) ≤ ch (B1 + B2 + (G1 + G2)) (G2 + B2) := tl_le_all _ _ _ _ (by omega)
  constructor
  · rw [tA_nat h1 h2, tN_nat h1 h2]
    simp only [Bool.or_eq_false_iff, decide_eq_false_iff_not]
    omega
  · rw [Bool.and_eq_true, Bool.or_eq_true, Bool.or_eq_true, Bool.and_eq_true, Bool.and_eq_true]
    rw [wrap64 (n := (G2 : Int) - 1) (by omega) (by omega), wrap64 (n := (B2 : Int) + 1) (by omega) (by omega), wrap64 (n := (G1 : Int) - 1) (by omega) (by omega), wrap64 (n := (B1 : Int) + 1) (by omega) (by omega)]
    constructor
    · by_cases hc : tC G1 B1 ((G2 : Int) - 1) ((B2 : Int) + 1) = 0
      · right
        obtain ⟨_, _, G', B', _, _, e1, e2, _, h3⟩ := tC_zero hc
        obtain rfl : G2 = G' + 1 := by omega
        obtain rfl : B' = B2 + 1 := by omega
        rw [e1, e2, tA_nat h1 h2, tN_nat h1 h2, tA_nat h1 h3, tN_nat h1 h3]
        have hw := tl_worse (B1 + B2) (G1 + G') (G' + 1 + B2) (G' + 1) (by omega)
        have q1 : B1 + (B2 + 1) = B1 + B2 + 1 := by omega
        have q2 : G' + (B2 + 1) = G' + 1 + B2 := by omega
        have q3 : G1 + (G' + 1) = G1 + G' + 1 := by omega
        have q4 : B1 + B2 + 1 + (G1 + G') = B1 + B2 + (G1 + G' + 1) := by omega
        rw [q1, q2, q3, q4]
        exact ⟨by simp, by rw [decide_eq_true_eq]; omega⟩
      · left; simpa using hc
    · by_cases hc : tC ((G1 : Int) - 1) ((B1 : Int) + 1) G2 B2 = 0
      · right
        obtain ⟨G', B', _, _, e1, e2, _, _, h3, _⟩ := tC_zero hc
        obtain rfl : G1 = G' + 1 := by omega
        obtain rfl : B' = B1 + 1 := by omega
        rw [e1, e2, tA_nat h1 h2, tN_nat h1 h2, tA_nat h3 h2, tN_nat h3 h2]
        have hw := tl_base (B1 + B2) (G' + G2) (G2 + B2) G2 (by omega)
        have q1 : B1 + 1 + B2 = B1 + B2 + 1 := by omega
        have q3 : G' + 1 + G2 = G' + G2 + 1 := by omega
        have q4 : B1 + B2 + 1 + (G' + G2) = B1 + B2 + (G' + G2 + 1) := by omega
        rw [q1, q3, q4]
        exact ⟨by simp, by rw [decide_eq_true_eq]; omega⟩
      · left; simpa using hc

def wE (g1 b1 g2 b2 : Int) (r b5 e1 b7 b a b10 e2 d c e3 y x : AV) : List AV := [cnt g1 b1, cnt g2 b2, r, cnt g1 b1, cnt g2 b2, b5, e1, b7, b, a, b10, e2, d, c, e3, y, x]

theorem s_callK {F : Nat → Option RFunc} {fl : Nat} {E : List AV} {l0 : List ROper} {s : Stop} {Q : Out → List AV → Heap → Prop} (free : Bool) (f : Nat) (args : List AV) (Hc : Heap) (V : AV) (h : s.head = some (free, f, args, Hc))
    (hr : Ret F (if free then fl else Hc.length) f args Hc fun v H' => v = V ∧ ∃ more, H' = Hc ++ more) (hk : ∀ more, WpS F fl E l0 (s.next fl E V (Hc ++ more)) Q) : WpS F fl E l0 s Q :=
  s_call free f args Hc h hr fun v H' hR => by obtain ⟨h1, m, h2⟩ := hR; rw [h1, h2]; exact hk m

/-- What a call of Tail gives, in numbers. -/
def TailIs (g1 b1 g2 b2 a b c i : Int) : Prop := ∀ (H : Heap) (fl : Nat), fl ≤ H.length → Ret FT fl 8 [cnt g1 b1, cnt g2 b2] H fun v H' => v = .tuple [.int .i64 a, .int .i64 b, flt c i] ∧ ∃ more, H' = H ++ more

theorem tail_is (g1 b1 g2 b2 : Int) : TailIs g1 b1 g2 b2 (tA g1 b1 g2 b2) (tN g1 b1 g2 b2) (tC g1 b1 g2 b2) (tI g1 b1 g2 b2) := fun H fl h => by
  rw [← tailV_eq]; exact Tail_ret g1 b1 g2 b2 H fl h


theorem worse_run (g1 b1 g2 b2 a b c1 i1 c d c2 i2 x y c3 i3 : Int) (h1 : TailIs g1 b1 g2 b2 a b c1 i1) (h2 : TailIs g1 b1 (IntKind.i64.wrap (g2 - 1)) (IntKind.i64.wrap (b2 + 1)) c d c2 i2) (h3 : TailIs (IntKind.i64.wrap (g1 - 1)) (IntKind.i64.wrap (b1 + 1)) g2 b2 x y c3 i3)
    (hlaw : c1 = 0 → (decide (b ≤ 0) || decide (a ≤ 0) || decide (a > b)) = false ∧ ((c2 != 0 || (b == d && decide (c ≤ a))) && (c3 != 0 || (b == y && decide (x ≥ a)))) = true) (H : Heap) (fl : Nat) (hfl : fl ≤ H.length) : Ret FT fl 4 [cnt g1 b1, cnt g2 b2] H fun v _ => v = .bool true := by
  refine ret_intro t4 rfl ?_
  refine w_seq (w_done (wE g1 b1 g2 b2 (.bool false) .undef .undef .undef .undef .undef .undef .undef .undef .undef .undef .undef .undef) (H ++ [tombK] ++ [tombK]) (by kernel_rfl) ?_)
  have hl0 : fl ≤ (H ++ [tombK] ++ [tombK]).length := by simp; omega
  generalize H ++ [tombK] ++ [tombK] = H0 at *
  refine w_seq (w_list (s_callK true 8 [cnt g1 b1, cnt g2 b2] H0 _ (by kernel_rfl) (h1 H0 _ hl0) ?_))
  intro m1
  have hl1 : fl ≤ (H0 ++ m1 ++ [tombK]).length := by simp; omega
  refine s_done (wE g1 b1 g2 b2 (.bool false) .undef (flt c1 i1) .undef (.int .i64 b) (.int .i64 a) .undef .undef .undef .undef .undef .undef .undef) (H0 ++ m1 ++ [tombK]) (by kernel_rfl) ?_
  generalize H0 ++ m1 ++ [tombK] = H1 at *
  refine w_seq (w_list (s_callK true 8 [cnt g1 b1, cnt (IntKind.i64.wrap (g2 - 1)) (IntKind.i64.wrap (b2 + 1))] H1 _ (by kernel_rfl) (h2 H1 _ hl1) ?_))
  intro m2
  have hl2 : fl ≤ (H1 ++ m2 ++ [tombK]).length := by simp; omega
  refine s_done (wE g1 b1 g2 b2 (.bool false) .undef (flt c1 i1) .undef (.int .i64 b) (.int .i64 a) .undef (flt c2 i2) (.int .i64 d) (.int .i64 c) .undef .undef .undef) (H1 ++ m2 ++ [tombK]) (by kernel_rfl) ?_
  generalize H1 ++ m2 ++ [tombK] = H2 at *
  refine w_seq (w_list (s_callK true 8 [cnt (IntKind.i64.wrap (g1 - 1)) (IntKind.i64.wrap (b1 + 1)), cnt g2 b2] H2 _ (by kernel_rfl) (h3 H2 _ hl2) ?_))
  intro m3
  have hl3 : fl ≤ (H2 ++ m3 ++ [tombK]).length := by simp; omega
  refine s_done (wE g1 b1 g2 b2 (.bool false) .undef (flt c1 i1) .undef (.int .i64 b) (.int .i64 a) .undef (flt c2 i2) (.int .i64 d) (.int .i64 c) (flt c3 i3) (.int .i64 y) (.int .i64 x)) (H2 ++ m3 ++ [tombK]) (by kernel_rfl) ?_
  generalize H2 ++ m3 ++ [tombK] = H3 at *
  refine w_seq (w_seq (w_list (s_callK true 11 [] H3 _ (by kernel_rfl) (example_ret H3 _ hl3) ?_)))
  intro m4
  generalize H3 ++ m4 = H4
  refine s_done (wE g1 b1 g2 b2 (.bool false) (.bool false) (flt c1 i1) .undef (.int .i64 b) (.int .i64 a) .undef (flt c2 i2) (.int .i64 d) (.int .i64 c) (flt c3 i3) (.int .i64 y) (.int .i64 x)) H4 (by kernel_rfl) ?_
  refine w_cond (t := false) rfl (fun h => by cases h) (fun _ => w_skip ?_)
  refine w_seq (w_seq (w_done (wE g1 b1 g2 b2 (.bool false) (.bool false) (flt c1 i1) (.bool (c1 != 0)) (.int .i64 b) (.int .i64 a) .undef (flt c2 i2) (.int .i64 d) (.int .i64 c) (flt c3 i3) (.int .i64 y) (.int .i64 x)) H4 (by kernel_rfl) ?_))
  refine w_cond (t := c1 != 0) rfl (fun h => ?_) (fun h => w_skip ?_)
  · refine w_seq (w_done (wE g1 b1 g2 b2 (.bool true) (.bool false) (flt c1 i1) (.bool (c1 != 0)) (.int .i64 b) (.int .i64 a) .undef (flt c2 i2) (.int .i64 d) (.int .i64 c) (flt c3 i3) (.int .i64 y) (.int .i64 x)) H4 (by kernel_rfl) ?_)
    exact w_ret ⟨_, rfl, rfl⟩
  · obtain ⟨law1, law2⟩ := hlaw (by simpa using h)
    refine w_seq (w_seq (w_done (wE g1 b1 g2 b2 (.bool false) (.bool false) (flt c1 i1) (.bool (c1 != 0)) (.int .i64 b) (.int .i64 a) (.bool (decide (b ≤ 0) || decide (a ≤ 0) || decide (a > b))) (flt c2 i2) (.int .i64 d) (.int .i64 c) (flt c3 i3) (.int .i64 y) (.int .i64 x)) H4 (by kernel_rfl) ?_))
    refine w_cond (t := (decide (b ≤ 0) || decide (a ≤ 0) || decide (a > b))) rfl (fun h => by rw [law1] at h; cases h) (fun _ => w_skip ?_)
    refine w_seq (w_done (wE g1 b1 g2 b2 (.bool ((c2 != 0 || (b == d && decide (c ≤ a))) && (c3 != 0 || (b == y && decide (x ≥ a))))) (.bool false) (flt c1 i1) (.bool (c1 != 0)) (.int .i64 b) (.int .i64 a) (.bool (decide (b ≤ 0) || decide (a ≤ 0) || decide (a > b))) (flt c2 i2) (.int .i64 d) (.int .i64 c) (flt c3 i3) (.int .i64 y) (.int .i64 x)) H4 (by kernel_rfl) ?_)
    refine w_ret ⟨_, rfl, ?_⟩
    show AV.bool _ = _
    rw [law2]

theorem worse_ret (g1 b1 g2 b2 : Int) (r2 : -9223372036854775808 ≤ g2 ∧ g2 ≤ 9223372036854775807) (H : Heap) (fl : Nat) (hfl : fl ≤ H.length) : Ret FT fl 4 [cnt g1 b1, cnt g2 b2] H fun v _ => v = .bool true :=
  worse_run _ _ _ _ _ _ _ _ _ _ _ _ _ _ _ _ (tail_is g1 b1 g2 b2) (tail_is _ _ _ _) (tail_is _ _ _ _) (fun h => worse_law h r2) H fl hfl

end Go.Proofs.Ytebpodfildpgbaa
