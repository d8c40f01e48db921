/-
  The laws of canary over the abstract machine.
-/
import Derived.Test.YtebpodfildpgbaaCanL
import Derived.Test.YtebpodfildpgbaaCanC2
import Derived.Test.YtebpodfildpgbaaRmCore
namespace Go.RM
set_option linter.unusedSimpArgs false
set_option linter.unusedVariables false
set_option maxRecDepth 8000

variable {F : Nat → Option RFunc}

theorem leaf {b : Bool} {H : Heap} (h : b = true) : tru (.bool b) H := by rw [h]

abbrev CExampleC (F : Nat → Option RFunc) (f : Nat) : Prop := ∀ {fl H Q}, fl ≤ H.length → (∀ H', Keep H.length H H' → Q (.bool true) H') → Ret F fl f [] H Q

theorem canExample_c {f n1 n2 n3 : Nat} (hF : F f = some (rf_LcanaryExample n1 n2 n3)) (h1 : TailC F n1) (h2 : DecideC F n2) (h3 : TolC F n3) : CExampleC F f := fun {fl H Q} hfl hq => by
  refine v_LcanaryExample hF ?_
  refine h1 hfl fun H4 k4 => ⟨_, _, _, _, rfl, fun H6 d6 => ?_⟩
  have k6 := k4.call d6.keep
  refine h2 (k6.fl hfl) fun H10 k10 => ⟨_, _, _, rfl, fun H12 d12 => ?_⟩
  have k12 := (k6.call k10).call d12.keep
  refine h2 (k12.fl hfl) fun H16 k16 => ⟨_, _, _, rfl, fun H18 d18 => ?_⟩
  have k18 := (k12.call k16).call d18.keep
  refine h3 (k18.fl hfl) fun H22 k22 => ⟨_, _, _, rfl, fun H24 d24 => ?_⟩
  have e1 : tailR 1 0 0 1 = (1, 2, (0, 0)) := by decide
  have e2 : decideR 20 0 0 20 5 50 = (3, (0, 0)) := by decide
  have e3 : decideR 20 0 2 0 5 50 = (1, (0, 0)) := by decide
  have e4 : tolR 9 0 7 0 = (7, (0, 0)) := by decide
  rw [e1, e2, e3, e4]
  exact hq H24 ((k18.call k22).call d24.keep)

/-! ### Sums, the other way round -/

def upS (B G b2 g2 : Nat) : Nat → Nat
  | 0 => 0
  | i + 1 => upS B G b2 g2 i + ch B (b2 + i) * ch G (g2 - i)

theorem tl_up (B G b2 g2 : Nat) : ∀ i, i ≤ g2 + 1 → upS B G b2 g2 i + tl B G (g2 + b2) (g2 + 1 - i) = tl B G (g2 + b2) (g2 + 1)
  | 0, _ => by simp [upS]
  | i + 1, h => by
    have ih := tl_up B G b2 g2 i (by omega)
    have e : g2 + 1 - i = (g2 - i) + 1 := by omega
    have e2 : g2 + 1 - (i + 1) = g2 - i := by omega
    have e3 : g2 + b2 - (g2 - i) = b2 + i := by omega
    rw [e, tl, e3] at ih
    rw [upS, e2]; omega

theorem up_big {k : Nat} (B G b2 g2 : Nat) (hB : B < b2 + k + 1) : ∀ j, upS B G b2 g2 (k + 1 + j) = upS B G b2 g2 (k + 1)
  | 0 => rfl
  | j + 1 => by
    rw [← Nat.add_assoc, upS, up_big B G b2 g2 hB j, ch_gt B (b2 + (k + 1 + j)) (by omega)]; simp

theorem up_swap {g1 b1 g2 b2 : Nat} : ∀ i, i ≤ b1 + 1 → i ≤ g2 + 1 → upS (b1 + b2) (g1 + g2) b2 g2 i = upS (g1 + g2) (b1 + b2) g1 b1 i
  | 0, _, _ => rfl
  | i + 1, h1, h2 => by
    rw [upS, upS, up_swap i (by omega) (by omega)]
    have x1 : ch (b1 + b2) (b2 + i) = ch (b1 + b2) (b1 - i) := by
      have := ch_symm (b1 + b2) (b1 - i) (by omega)
      rw [← this]; congr 1; omega
    have x2 : ch (g1 + g2) (g2 - i) = ch (g1 + g2) (g1 + i) := by
      have := ch_symm (g1 + g2) (g1 + i) (by omega)
      rw [← this]; congr 1; omega
    rw [x1, x2, Nat.mul_comm]

/-- The base is as probably as good as it is as the canary is as bad as it is. -/
theorem tl_sym (g1 b1 g2 b2 : Nat) : tl (b1 + b2) (g1 + g2) (g2 + b2) (g2 + 1) = tl (g1 + g2) (b1 + b2) (b1 + g1) (b1 + 1) := by
  have a := tl_up (b1 + b2) (g1 + g2) b2 g2 (g2 + 1) (Nat.le_refl _)
  have b := tl_up (g1 + g2) (b1 + b2) g1 b1 (b1 + 1) (Nat.le_refl _)
  rw [Nat.sub_self] at a b
  simp only [tl, Nat.add_zero] at a b
  have a' : upS (b1 + b2) (g1 + g2) b2 g2 (g2 + 1) = tl (b1 + b2) (g1 + g2) (g2 + b2) (g2 + 1) := by rw [tl]; exact a
  have b' : upS (g1 + g2) (b1 + b2) g1 b1 (b1 + 1) = tl (g1 + g2) (b1 + b2) (b1 + g1) (b1 + 1) := by rw [tl]; exact b
  rw [← a', ← b']
  rcases Nat.le_total g2 b1 with h | h
  · obtain ⟨j, rfl⟩ : ∃ j, b1 = g2 + j := ⟨b1 - g2, by omega⟩
    have e : g2 + j + 1 = g2 + 1 + j := by omega
    rw [e, up_big (k := g2) (g1 + g2) (g2 + j + b2) g1 (g2 + j) (by omega) j]
    exact up_swap (g2 + 1) (by omega) (by omega)
  · obtain ⟨j, rfl⟩ : ∃ j, g2 = b1 + j := ⟨g2 - b1, by omega⟩
    have e : b1 + j + 1 = b1 + 1 + j := by omega
    rw [e, up_big (k := b1) (b1 + b2) (g1 + (b1 + j)) b2 (b1 + j) (by omega) j]
    exact up_swap (b1 + 1) (by omega) (by omega)

theorem lo_sym (B G m : Nat) : ∀ j, j ≤ m + 1 → lo B G m j = tl G B m j
  | 0, _ => rfl
  | j + 1, h => by rw [lo, tl, lo_sym B G m j (by omega), Nat.mul_comm]; omega

theorem okC_swap {g b : Int} (h : okC g b) : okC b g := by unfold okC at h ⊢; omega

theorem tailR_ok {g1 b1 g2 b2 : Int} (h : (tailR g1 b1 g2 b2).2.2.1 = 0) : okC g1 b1 ∧ okC g2 b2 ∧ tailR g1 b1 g2 b2 = (waysI g1 b1 g2 b2, allI g1 b1 g2 b2, (0, 0)) := by
  unfold tailR at h ⊢
  split at h
  · rename_i h1
    obtain ⟨a, b, _⟩ := twoR_ok h1
    exact ⟨a, b, by rw [if_pos h1]⟩
  · rename_i h1; exact absurd h h1

theorem tailR_of {g1 b1 g2 b2 : Int} (o1 : okC g1 b1) (o2 : okC g2 b2) : tailR g1 b1 g2 b2 = (waysI g1 b1 g2 b2, allI g1 b1 g2 b2, (0, 0)) := by
  unfold tailR twoR; rw [if_pos o1, if_pos o2]; rfl

theorem sym_run {f n1 n2 : Nat} (hF : F f = some (rf_LCanarySidesAreSymmetric n1 n2)) (h1 : TailC F n1) (h2 : CExampleC F n2) {fl : Nat} {H : Heap} {g1 b1 g2 b2 : Int} (hfl : fl ≤ H.length) : Ret F fl f [cnt g1 b1, cnt g2 b2] H tru := by
  refine v_LCanarySidesAreSymmetric hF _ _ _ _ ?_
  intro H4 d4 H5 d5
  have k5 := d4.keep.call d5.keep
  refine h1 (k5.fl hfl) fun H10 k10 => ⟨_, _, _, _, rfl, fun H12 d12 => ?_⟩
  have k12 := (k5.call k10).call d12.keep
  refine h1 (k12.fl hfl) fun H17 k17 => ⟨_, _, _, _, rfl, fun H19 d19 => ?_⟩
  have k19 := (k12.call k17).call d19.keep
  refine h1 (k19.fl hfl) fun H24 k24 => ⟨_, _, _, _, rfl, fun H26 d26 => ?_⟩
  have k26 := (k19.call k24).call d26.keep
  refine h2 (k26.fl hfl) fun H28 k28 => ⟨_, rfl, fun h => absurd rfl h, fun _ => ⟨fun _ => rfl, fun hok => leaf ?_⟩⟩
  have hok1 : (tailR g1 b1 g2 b2).2.2.1 = 0 := Decidable.not_not.1 fun h => hok (.inl (.inl h))
  obtain ⟨o1, o2, e1⟩ := tailR_ok hok1
  rw [e1, tailR_of (okC_swap o2) (okC_swap o1), tailR_of (okC_swap o1) (okC_swap o2)]
  obtain ⟨w0, w1, w2, _⟩ := ways_le o1 o2
  obtain ⟨u0, u1, u2, _⟩ := ways_le (okC_swap o1) (okC_swap o2)
  simp only
  obtain ⟨a1, a2, a3⟩ := okC_nat o1
  obtain ⟨c1, c2, c3⟩ := okC_nat o2
  unfold waysI allI at *
  generalize g1.toNat = G1 at *
  generalize b1.toNat = B1 at *
  generalize g2.toNat = G2 at *
  generalize b2.toNat = B2 at *
  have s1 := tl_sym G1 B1 G2 B2
  have s2 : G2 + G1 = G1 + G2 := Nat.add_comm _ _
  have s3 : B2 + B1 = B1 + B2 := Nat.add_comm _ _
  have s4 : G1 + G2 + (B1 + B2) = B1 + B2 + (G1 + G2) := Nat.add_comm _ _
  have s5 : B2 + G2 = G2 + B2 := Nat.add_comm _ _
  have s6 : ch (B1 + B2 + (G1 + G2)) (B1 + G1) = ch (B1 + B2 + (G1 + G2)) (G2 + B2) := by
    have := ch_symm (B1 + B2 + (G1 + G2)) (G2 + B2) (by omega)
    rw [← this]; congr 1; omega
  -- what is at most as bad
  have l1 := lo_sym (B1 + B2) (G1 + G2) (G2 + B2) (B2 + 1) (by omega)
  have l2 := lo_tl (B1 + B2) (G1 + G2) (G2 + B2) B2 (by omega)
  have l3 := tl_all (G1 + G2) (B1 + B2) (G2 + B2)
  rw [lo] at l1
  have e7 : G2 + B2 + 1 - B2 = G2 + 1 := by omega
  have e8 : G2 + B2 - B2 = G2 := by omega
  rw [e7, l3] at l2
  rw [e8] at l1
  have p1 := ch_pos (B1 + B2) B2 (by omega)
  have p2 := ch_pos (G1 + G2) G2 (by omega)
  have p3 := Nat.mul_pos p1 p2
  rw [s4, s5] at u1 u2
  rw [s5] at u0
  rw [s2, s3, s4, s5, s6, ← s1]
  rw [wrap64 (by omega) (by omega)]
  simp only [beq_self_eq_true, Bool.true_and, decide_eq_true_eq]
  omega

theorem decideR_ok {g1 b1 g2 b2 need pm : Int} (h : (decideR g1 b1 g2 b2 need pm).2.1 = 0) : okC g1 b1 ∧ okC g2 b2 ∧ okP need pm ∧ decideR g1 b1 g2 b2 need pm = (verdictI g1 b1 g2 b2 need pm, (0, 0)) := by
  unfold decideR at h ⊢
  split at h
  · rename_i h1
    obtain ⟨a, b, _⟩ := twoR_ok h1
    split at h
    · rename_i h2; exact ⟨a, b, h2, by rw [if_pos h1, if_pos h2]⟩
    · simp at h
  · rename_i h1; exact absurd h h1

theorem tolR_ok {g1 b1 s pm : Int} (h : (tolR g1 b1 s pm).2.1 = 0) : okC g1 b1 ∧ (0 ≤ s ∧ s ≤ 25) ∧ (0 ≤ pm ∧ pm < 1000) ∧ tolR g1 b1 s pm = (((lastK (passK g1 b1 s.toNat pm) s.toNat : Nat) : Int), (0, 0)) := by
  unfold tolR at h ⊢
  split at h
  · rename_i h1
    obtain ⟨a, b, c, _⟩ := tolFault_ok h1
    exact ⟨a, b, c, by rw [if_pos h1]⟩
  · rename_i h1; exact absurd h h1

/-- More bad samples of as many do not make the result more probable. -/
theorem ways_anti {g1 b1 : Int} {n k j : Nat} (o : okC g1 b1) (hjk : j ≤ k) (hk : k ≤ n) (hn : n ≤ 25) : waysI g1 b1 ((n : Int) - k) k ≤ waysI g1 b1 ((n : Int) - j) j ∧ allI g1 b1 ((n : Int) - k) k = allI g1 b1 ((n : Int) - j) j := by
  obtain ⟨d, rfl⟩ : ∃ d, k = j + d := ⟨k - j, by omega⟩
  induction d with
  | zero => exact ⟨Int.le_refl _, rfl⟩
  | succ d ih =>
    obtain ⟨i1, i2⟩ := ih (by omega) (by omega)
    obtain ⟨a1, a2, a3⟩ := okC_nat o
    have t1 : ((n : Int) - ((j + (d + 1) : Nat) : Int)).toNat = n - (j + d) - 1 := by omega
    have t2 : ((j + (d + 1) : Nat) : Int).toNat = (j + d) + 1 := by omega
    have t3 : ((n : Int) - ((j + d : Nat) : Int)).toNat = n - (j + d) - 1 + 1 := by omega
    have t4 : ((j + d : Nat) : Int).toNat = j + d := by omega
    have hw := tl_worse (b1.toNat + (j + d)) (g1.toNat + (n - (j + d) - 1)) (n - (j + d) - 1 + 1 + (j + d)) (n - (j + d) - 1 + 1) (by omega)
    have step : waysI g1 b1 ((n : Int) - ((j + (d + 1) : Nat) : Int)) ((j + (d + 1) : Nat) : Int) ≤ waysI g1 b1 ((n : Int) - ((j + d : Nat) : Int)) ((j + d : Nat) : Int) ∧ allI g1 b1 ((n : Int) - ((j + (d + 1) : Nat) : Int)) ((j + (d + 1) : Nat) : Int) = allI g1 b1 ((n : Int) - ((j + d : Nat) : Int)) ((j + d : Nat) : Int) := by
      unfold waysI allI
      rw [t1, t2, t3, t4]
      have q1 : b1.toNat + (j + d + 1) = b1.toNat + (j + d) + 1 := by omega
      have q2 : g1.toNat + (n - (j + d) - 1 + 1) = g1.toNat + (n - (j + d) - 1) + 1 := by omega
      have q3 : n - (j + d) - 1 + (j + d + 1) = n - (j + d) - 1 + 1 + (j + d) := by omega
      have q4 : b1.toNat + (j + d) + 1 + (g1.toNat + (n - (j + d) - 1)) = b1.toNat + (j + d) + (g1.toNat + (n - (j + d) - 1) + 1) := by omega
      rw [q1, q2, q3, q4]
      exact ⟨by omega, rfl⟩
    exact ⟨Int.le_trans step.1 i1, step.2.trans i2⟩

theorem passK_iff {g1 b1 pm : Int} {n k : Nat} : passK g1 b1 n pm k = true ↔ ¬ (waysI g1 b1 ((n : Int) - k) k * 1000 ≤ allI g1 b1 ((n : Int) - k) k * pm) := by
  unfold passK verdictI
  rw [beq_iff_eq]
  split
  · rename_i h; simp [h]
  · rename_i h; rw [if_neg (by omega)]; simp [h]

theorem pass_anti {g1 b1 pm : Int} {n k j : Nat} (o : okC g1 b1) (hjk : j ≤ k) (hk : k ≤ n) (hn : n ≤ 25) (h : passK g1 b1 n pm k = true) : passK g1 b1 n pm j = true := by
  rw [passK_iff] at h ⊢
  obtain ⟨h1, h2⟩ := ways_anti o hjk hk hn
  rw [h2] at h; omega

theorem pass_zero {g1 b1 pm : Int} {n : Nat} (o : okC g1 b1) (hn : n ≤ 25) (p : pm < 1000) : passK g1 b1 n pm 0 = true := by
  rw [passK_iff]
  have o2 : okC ((n : Int) - (0 : Nat)) (0 : Nat) := by unfold okC; omega
  obtain ⟨w0, w1, w2, w3⟩ := ways_le o o2
  have he : waysI g1 b1 ((n : Int) - (0 : Nat)) (0 : Nat) = allI g1 b1 ((n : Int) - (0 : Nat)) (0 : Nat) := by
    unfold waysI allI
    have t1 : ((n : Int) - ((0 : Nat) : Int)).toNat = n := by omega
    rw [t1]
    have := tl_all (g1.toNat + n) (b1.toNat + 0) (n + 0)
    simp only [Nat.add_zero] at this ⊢
    rw [show (((0 : Nat) : Int).toNat) = 0 from rfl]
    simp only [Nat.add_zero]
    rw [this]
  rw [he]
  have hpos : 0 < allI g1 b1 ((n : Int) - (0 : Nat)) (0 : Nat) := by omega
  have := Int.mul_lt_mul_of_pos_left p hpos
  omega

theorem fails_iff {g1 b1 pm : Int} {n k : Nat} (o : okC g1 b1) (hk : k ≤ n) (hn : n ≤ 25) (p : pm < 1000) : verdictI g1 b1 ((n : Int) - k) k 0 pm = 3 ↔ lastK (passK g1 b1 n pm) n < k := by
  obtain ⟨l1, l2⟩ := lastK_spec (passK g1 b1 n pm) n
  have hv := verdict_cases g1 b1 ((n : Int) - k) k pm (by omega)
  have hp : passK g1 b1 n pm k = true ↔ verdictI g1 b1 ((n : Int) - k) k 0 pm = 2 := by unfold passK; rw [beq_iff_eq]
  have hl : passK g1 b1 n pm (lastK (passK g1 b1 n pm) n) = true := by
    rcases l1 with h | h
    · rw [h]; exact pass_zero o hn p
    · exact h
  constructor
  · intro h
    rcases Nat.lt_or_ge (lastK (passK g1 b1 n pm) n) k with h1 | h1
    · exact h1
    · have := hp.1 (pass_anti o h1 (lastK_le _ _) hn hl)
      omega
  · intro h
    have := l2 k h hk
    rcases hv with h2 | h2
    · exact h2
    · rw [hp.2 h2] at this; cases this

theorem exact_run {f n1 n2 n3 : Nat} (hF : F f = some (rf_LCanaryToleranceIsExact n1 n2 n3)) (h1 : TolC F n1) (h2 : DecideC F n2) (h3 : CExampleC F n3) {fl : Nat} {H : Heap} {g1 b1 s bad pm : Int} (hbad : -9223372036854775808 ≤ bad ∧ bad ≤ 9223372036854775807) (hfl : fl ≤ H.length) : Ret F fl f [cnt g1 b1, i64 s, i64 bad, i64 pm] H tru := by
  refine v_LCanaryToleranceIsExact hF _ _ _ _ _ ?_
  intro H5 d5
  refine h1 (d5.keep.fl hfl) fun H9 k9 => ⟨_, _, _, rfl, fun H11 d11 => ?_⟩
  have k11 := (d5.keep.call k9).call d11.keep
  refine h2 (k11.fl hfl) fun H15 k15 => ⟨_, _, _, rfl, fun H17 d17 => ?_⟩
  have k17 := (k11.call k15).call d17.keep
  refine h3 (k17.fl hfl) fun H19 k19 => ⟨_, rfl, fun h => absurd rfl h, fun _ => leaf ?_⟩
  rw [Bool.or_eq_true, Bool.or_eq_true, bne_iff_ne, bne_iff_ne]
  by_cases x1 : (tolR g1 b1 s pm).2.1 = 0
  · by_cases x2 : (decideR g1 b1 (IntKind.wrap .i64 (s - bad)) bad 0 pm).2.1 = 0
    · right
      obtain ⟨o1, o2, o3, e1⟩ := tolR_ok x1
      obtain ⟨_, q2, _, e2⟩ := decideR_ok x2
      rw [e1, e2]
      have hb : 0 ≤ bad ∧ bad ≤ 25 := by unfold okC at q2; omega
      rw [wrap64 (by omega) (by omega)] at q2 ⊢
      have hs : s - bad = ((s.toNat : Nat) : Int) - ((bad.toNat : Nat) : Int) := by omega
      have hbb : bad = ((bad.toNat : Nat) : Int) := by omega
      have hbs : bad.toNat ≤ s.toNat := by unfold okC at q2; omega
      have := fails_iff (pm := pm) o1 hbs (by omega) o3.2
      rw [← hs, ← hbb] at this
      show ((verdictI g1 b1 (s - bad) bad 0 pm == 3) == decide (bad > ((lastK (passK g1 b1 s.toNat pm) s.toNat : Nat) : Int))) = true
      rw [beq_iff_eq, Bool.eq_iff_iff, beq_iff_eq, decide_eq_true_eq, this]
      omega
    · exact .inl (.inr x2)
  · exact .inl (.inl x1)

theorem strict_run {f n1 n2 : Nat} (hF : F f = some (rf_LCanaryStricterToleratesLess n1 n2)) (h1 : TolC F n1) (h2 : CExampleC F n2) {fl : Nat} {H : Heap} {g1 b1 s pm more : Int} (hfl : fl ≤ H.length) : Ret F fl f [cnt g1 b1, i64 s, i64 pm, i64 more] H tru := by
  refine v_LCanaryStricterToleratesLess hF _ _ _ _ _ ?_
  intro H5 d5
  refine h1 (d5.keep.fl hfl) fun H9 k9 => ⟨_, _, _, rfl, fun H11 d11 => ?_⟩
  have k11 := (d5.keep.call k9).call d11.keep
  refine h1 (k11.fl hfl) fun H15 k15 => ⟨_, _, _, rfl, fun H17 d17 => ?_⟩
  have k17 := (k11.call k15).call d17.keep
  refine h1 (k17.fl hfl) fun H21 k21 => ⟨_, _, _, rfl, fun H23 d23 => ?_⟩
  have k23 := (k17.call k21).call d23.keep
  refine h2 (k23.fl hfl) fun H25 k25 => ⟨_, rfl, fun h => absurd rfl h, fun _ => ⟨fun _ => rfl, fun hok => leaf ?_⟩⟩
  have hok : (tolR g1 b1 s pm).2.1 = 0 := Decidable.not_not.1 hok
  obtain ⟨o1, o2, o3, e1⟩ := tolR_ok hok
  rw [e1, Bool.and_eq_true, Bool.or_eq_true, Bool.or_eq_true, Bool.or_eq_true, bne_iff_ne, bne_iff_ne, decide_eq_true_eq, decide_eq_true_eq, decide_eq_true_eq]
  constructor
  · by_cases x2 : (tolR g1 b1 s more).2.1 = 0
    · by_cases x3 : more < pm
      · exact .inl (.inr x3)
      · right
        obtain ⟨_, _, p3, e2⟩ := tolR_ok x2
        rw [e2]
        have := lastK_mono (p := passK g1 b1 s.toNat more) (q := passK g1 b1 s.toNat pm) (fun k hk => by
          rw [passK_iff] at hk ⊢
          intro h
          apply hk
          have ha : 0 ≤ allI g1 b1 ((s.toNat : Int) - k) k := by unfold allI; omega
          have := Int.mul_le_mul_of_nonneg_left (show pm ≤ more by omega) ha
          omega) s.toNat
        show ((lastK (passK g1 b1 s.toNat more) s.toNat : Nat) : Int) ≤ ((lastK (passK g1 b1 s.toNat pm) s.toNat : Nat) : Int)
        omega
    · exact .inl (.inl x2)
  · by_cases x2 : (tolR (IntKind.wrap .i64 (g1 + 1)) (IntKind.wrap .i64 (b1 - 1)) s pm).2.1 = 0
    · right
      obtain ⟨p1, _, _, e2⟩ := tolR_ok x2
      have ob := o1
      unfold okC at ob
      rw [wrap64 (n := g1 + 1) (by omega) (by omega), wrap64 (n := b1 - 1) (by omega) (by omega)] at p1 e2 ⊢
      rw [e2]
      have pb := p1
      unfold okC at pb
      show ((lastK (passK (g1 + 1) (b1 - 1) s.toNat pm) s.toNat : Nat) : Int) ≤ ((lastK (passK g1 b1 s.toNat pm) s.toNat : Nat) : Int)
      -- the largest that passes for the better base passes for the worse one
      obtain ⟨l1, l2⟩ := lastK_spec (passK (g1 + 1) (b1 - 1) s.toNat pm) s.toNat
      have hle := lastK_le (passK (g1 + 1) (b1 - 1) s.toNat pm) s.toNat
      rcases l1 with l1 | l1
      · omega
      · generalize lastK (passK (g1 + 1) (b1 - 1) s.toNat pm) s.toNat = k at *
        have hpass : passK g1 b1 s.toNat pm k = true := by
          rw [passK_iff] at l1 ⊢
          have hw := tl_base ((b1 - 1).toNat + k) (g1.toNat + (s.toNat - k)) ((s.toNat - k) + k) (s.toNat - k) (by omega)
          have t1 : (((s.toNat : Nat) : Int) - (k : Int)).toNat = s.toNat - k := by omega
          have t2 : ((k : Nat) : Int).toNat = k := by omega
          have t3 : (g1 + 1).toNat = g1.toNat + 1 := by omega
          have t4 : b1.toNat = (b1 - 1).toNat + 1 := by omega
          have q1 : g1.toNat + 1 + (s.toNat - k) = g1.toNat + (s.toNat - k) + 1 := by omega
          have q2 : (b1 - 1).toNat + 1 + k = (b1 - 1).toNat + k + 1 := by omega
          have hways : waysI (g1 + 1) (b1 - 1) ((s.toNat : Int) - k) k ≤ waysI g1 b1 ((s.toNat : Int) - k) k := by
            unfold waysI; rw [t1, t2, t3, t4, q1, q2]; omega
          have hall : allI (g1 + 1) (b1 - 1) ((s.toNat : Int) - k) k = allI g1 b1 ((s.toNat : Int) - k) k := by
            unfold allI; rw [t1, t2, t3, t4]; congr 2; omega
          rw [hall] at l1; omega
        obtain ⟨m1, m2⟩ := lastK_spec (passK g1 b1 s.toNat pm) s.toNat
        rcases Nat.lt_or_ge (lastK (passK g1 b1 s.toNat pm) s.toNat) k with h | h
        · have := m2 k h hle
          rw [hpass] at this; cases this
        · omega
    · exact .inl x2

end Go.RM
