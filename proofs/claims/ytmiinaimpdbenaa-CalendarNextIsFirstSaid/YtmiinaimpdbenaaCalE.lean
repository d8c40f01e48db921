/-
  The laws of calendar.
-/
import Derived.Test.YtmiinaimpdbenaaCalC4
import Derived.Test.YtmiinaimpdbenaaCalL
import Derived.Test.YtmiinaimpdbenaaRmLeaf
namespace Go.RM
set_option linter.unusedSimpArgs false
set_option linter.unusedVariables false
set_option maxRecDepth 4000
open Cal

variable {F : Nat → Option RFunc}

/-! ### The example -/

def exC : Calr := ⟨[(0, 60, 120)], []⟩
theorem exC.fault : calFault exC = (0, 0) := by decide
theorem exC.op {t : Int} (h : 0 ≤ t) (h2 : t < 10200) : op exC t = decide ((60 ≤ t ∧ t < 120) ∨ 10140 ≤ t) := by
  unfold Cal.op weekly exC
  simp only [List.not_mem_nil, decide_false, Bool.not_false, Bool.true_and, List.any_cons, List.any_nil, Bool.or_false]
  unfold inWin
  rw [decide_eq_decide]
  simp only
  omega
theorem exC.N1 : N exC 60 = 0 := by
  have := N_flat (c := exC) (a := 0) (b := 60) (by omega) (by omega) fun t h1 h2 => by rw [exC.op h1 (by omega)]; exact decide_eq_false (by omega)
  rw [this]; rfl
theorem exC.N2 {t : Int} (h1 : 60 ≤ t) (h2 : t ≤ 120) : N exC t = t - 60 := by
  have := N_run (c := exC) (a := 60) (b := t) (by omega) h1 fun u h3 h4 => by rw [exC.op (by omega) (by omega)]; exact decide_eq_true (by omega)
  rw [this, exC.N1]; omega
theorem exC.check {l : List Int} (h : timesBad l = false) : checkR exC l = (0, 0) := by
  unfold checkR
  rw [exC.fault, if_pos rfl, if_neg (by rw [h]; decide)]

abbrev CalExC (F : Nat → Option RFunc) (f : Nat) : Prop := ∀ {fl H Q}, fl ≤ H.length → (∀ H', Keep H.length H H' → Q (.bool true) H') → Ret F fl f [] H Q
theorem calExample_c {f n1 n2 n3 n4 : Nat} (hF : F f = some (rf_LcalendarExample n1 n2 n3 n4)) (h1 : OpenC F n1) (h2 : TimeC F n2 nextR) (h3 : Time2C F n3 workedR) (h4 : Time2C F n4 addR) : CalExC F f := fun {fl H Q} hfl hq => by
  refine v_LcalendarExample hF ?_
  intro b0 H1 hb0 H2 d2
  have ha : CalA H1 (.slice b0 0 1 (some 1)) .empty exC := ⟨NewB.arr (T := tWin) hb0 [winE (0, 60, 120)] rfl ⟨rfl, trivial⟩ rfl, Arr.nil⟩
  have k2 := hb0.keep.call d2.keep
  have a2 := ha.keep d2.keep
  refine h1 a2 (k2.fl hfl) fun H6 k6 => ⟨_, _, _, rfl, fun H8 d8 => ?_⟩
  have k8 := (k2.call k6).call d8.keep
  have a8 := (a2.keep k6).keep d8.keep
  refine h2 a8 (k8.fl hfl) fun H12 k12 => ⟨_, _, _, rfl, fun H14 d14 => ?_⟩
  have k14 := (k8.call k12).call d14.keep
  have a14 := (a8.keep k12).keep d14.keep
  refine h3 a14 (k14.fl hfl) fun H18 k18 => ⟨_, _, _, rfl, fun H20 d20 => ?_⟩
  have k20 := (k14.call k18).call d20.keep
  have a20 := (a14.keep k18).keep d20.keep
  refine h4 a20 (k20.fl hfl) fun H24 k24 => ⟨_, _, _, rfl, fun H26 d26 => ?_⟩
  have k26 := (k20.call k24).call d26.keep
  have r1 : openR exC 60 = (true, (0, 0)) := by
    unfold openR
    rw [exC.check (by decide), if_pos rfl, exC.op (by omega) (by omega)]; rfl
  have r2 : nextR exC 120 = (10140, (0, 0)) := by
    unfold nextR
    rw [exC.check (by decide), if_pos rfl, findFrom_eq (u := 10140) (by omega) (by omega) (by rw [exC.op (by omega) (by omega)]; rfl) fun s h1 h2 => by rw [exC.op (by omega) (by omega)]; exact decide_eq_false (by omega)]
  have r3 : workedR exC 0 100 = (40, (0, 0)) := by
    unfold workedR
    rw [exC.check (by decide), if_pos rfl, if_neg (by omega), exC.N2 (by omega) (by omega)]; rfl
  have r4 : addR exC 0 10 = (70, (0, 0)) := by
    unfold addR
    rw [exC.check (by decide), if_pos rfl, if_neg (by omega), findFrom_eq (p := fun u => decide (N exC u ≥ N exC 0 + 10)) (u := 70) (by omega) (by omega) (decide_eq_true (by rw [exC.N2 (by omega) (by omega)]; decide)) fun s h1 h2 => decide_eq_false (by
      have := (N_mono (c := exC) (a := s) (b := 69) (by omega) (by omega)).1
      rw [exC.N2 (t := 69) (by omega) (by omega)] at this
      have e : N exC 0 = 0 := rfl
      omega)]
  rw [r1, r2, r3, r4]
  exact hq H26 k26

/-! ### What the answers say -/

theorem checkR_eq {c : Calr} {l : List Int} (h : (calFault c).1 = 0) (ht : timesBad l = false) : checkR c l = (0, 0) := by
  unfold checkR
  rw [if_pos h, if_neg (by rw [ht]; decide)]
theorem timesBad1 {t : Int} : timesBad [t] = decide (t < 0 ∨ t > 10000000) := by unfold timesBad; simp
theorem timesBad2 {t u : Int} : timesBad [t, u] = (decide (t < 0 ∨ t > 10000000) || decide (u < 0 ∨ u > 10000000)) := by unfold timesBad; simp
theorem ok1 {t : Int} (h : 0 ≤ t ∧ t ≤ 10000000) : timesBad [t] = false := by rw [timesBad1]; exact decide_eq_false (by omega)
theorem ok2 {t u : Int} (h : 0 ≤ t ∧ t ≤ 10000000) (h2 : 0 ≤ u ∧ u ≤ 10000000) : timesBad [t, u] = false := by
  rw [timesBad2, decide_eq_false (by omega), decide_eq_false (by omega)]; rfl

theorem openR_eq {c : Calr} {t : Int} (h : (calFault c).1 = 0) (ht : 0 ≤ t ∧ t ≤ 10000000) : openR c t = (op c t, (0, 0)) := by
  unfold openR
  rw [checkR_eq h (ok1 ht), if_pos rfl]
theorem openR_ok {c : Calr} {t : Int} (h : (openR c t).2.1 = 0) : Ok c ∧ (calFault c).1 = 0 ∧ (0 ≤ t ∧ t ≤ 10000000) := by
  unfold openR at h
  split at h
  · rename_i he
    obtain ⟨a, b, e, d⟩ := checkR_ok he
    exact ⟨a, d, time1 b⟩
  · rename_i he; exact absurd h he

theorem workedR_eq {c : Calr} {a b : Int} (h : (calFault c).1 = 0) (ha : 0 ≤ a ∧ a ≤ 10000000) (hb : 0 ≤ b ∧ b ≤ 10000000) (hr : a ≤ b ∧ b - a ≤ 500000) : workedR c a b = (N c b - N c a, (0, 0)) := by
  unfold workedR
  rw [checkR_eq h (ok2 ha hb), if_pos rfl, if_neg (by omega)]
theorem workedR_ok {c : Calr} {a b : Int} (h : (workedR c a b).2.1 = 0) : Ok c ∧ (calFault c).1 = 0 ∧ (0 ≤ a ∧ a ≤ 10000000) ∧ (0 ≤ b ∧ b ≤ 10000000) ∧ (a ≤ b ∧ b - a ≤ 500000) := by
  unfold workedR at h
  split at h
  · rename_i he
    obtain ⟨o, ht, e, d⟩ := checkR_ok he
    obtain ⟨h1, h2⟩ := time2 ht
    split at h
    · cases h
    · exact ⟨o, d, h1, h2, by omega⟩
  · rename_i he; exact absurd h he

theorem nextR_ok {c : Calr} {t : Int} (h : (nextR c t).2.1 = 0) : Ok c ∧ (calFault c).1 = 0 ∧ (0 ≤ t ∧ t ≤ 10000000) ∧ ∃ u, nextR c t = (u, (0, 0)) ∧ t ≤ u ∧ u ≤ t + 500000 ∧ op c u = true ∧ N c u = N c t := by
  unfold nextR at h ⊢
  split at h
  · rename_i he
    obtain ⟨o, ht, e, d⟩ := checkR_ok he
    have t1 := time1 ht
    rw [if_pos he]
    cases hf : findFrom (op c) t 500001 with
    | none => rw [hf] at h; cases h
    | some u =>
      obtain ⟨x1, x2, x3, x4⟩ := findFrom_spec hf
      exact ⟨o, d, t1, u, rfl, x1, by omega, x3, N_flat (by omega) x1 x4⟩
  · rename_i he; exact absurd h he

theorem addR_ok {c : Calr} {t m : Int} (h : (addR c t m).2.1 = 0) : Ok c ∧ (calFault c).1 = 0 ∧ (0 ≤ t ∧ t ≤ 10000000) ∧ (0 ≤ m ∧ m ≤ 500000) ∧ ∃ u, addR c t m = (u, (0, 0)) ∧ t ≤ u ∧ u ≤ t + 500000 ∧ N c u = N c t + m ∧ (m = 0 → u = t) ∧ (0 < m → t < u ∧ op c (u - 1) = true) := by
  unfold addR at h ⊢
  split at h
  · rename_i he
    obtain ⟨o, ht, e, d⟩ := checkR_ok he
    have t1 := time1 ht
    rw [if_pos he]
    split at h
    · cases h
    rename_i hm
    rw [if_neg hm]
    cases hf : findFrom (fun u => decide (N c u ≥ N c t + m)) t 500001 with
    | none => rw [hf] at h; cases h
    | some u =>
      obtain ⟨x1, x2, x3, x4⟩ := findFrom_spec hf
      have x3 := of_decide_eq_true x3
      by_cases hut : u = t
      · subst hut
        exact ⟨o, d, t1, by omega, u, rfl, by omega, by omega, by omega, fun _ => rfl, fun h => by omega⟩
      · have y1 := of_decide_eq_false (x4 (u - 1) (by omega) (by omega))
        have y2 := of_decide_eq_false (x4 t (by omega) (by omega))
        have y3 := N_succ (c := c) (t := u - 1) (by omega)
        rw [show u - 1 + 1 = u from by omega] at y3
        have y4 := b2n_le (op c (u - 1))
        refine ⟨o, d, t1, by omega, u, rfl, x1, by omega, by omega, fun h => by omega, fun h => ⟨by omega, ?_⟩⟩
        cases hop : op c (u - 1) with
        | true => rfl
        | false =>
          rw [hop] at y3
          have : b2n false = 0 := rfl
          omega
  · rename_i he; exact absurd h he

/-! ### The laws -/

theorem additive_run {f n1 n2 : Nat} (hF : F f = some (rf_LCalendarWorkedIsAdditive n1 n2)) (h1 : Time2C F n1 workedR) (h2 : CalExC F n2) {fl : Nat} {H : Heap} {w h : AV} {c : Calr} {a m b : Int} (hc : CalA H w h c) (hfl : fl ≤ H.length) : Ret F fl f [calV w h, i64 a, i64 m, i64 b] H tru := by
  refine v_LCalendarWorkedIsAdditive hF _ _ _ _ _ ?_
  intro H5 d5
  have k5 := d5.keep
  refine h1 (hc.keep k5) (k5.fl hfl) fun H9 k9 => ⟨_, _, _, rfl, fun H11 d11 => ?_⟩
  have k11 := (k5.call k9).call d11.keep
  refine h1 (hc.keep k11) (k11.fl hfl) fun H15 k15 => ⟨_, _, _, rfl, fun H17 d17 => ?_⟩
  have k17 := (k11.call k15).call d17.keep
  refine h1 (hc.keep k17) (k17.fl hfl) fun H21 k21 => ⟨_, _, _, rfl, fun H23 d23 => ?_⟩
  have k23 := (k17.call k21).call d23.keep
  refine h2 (k23.fl hfl) fun H25 k25 => ⟨_, rfl, fun h => absurd rfl h, fun _ => ⟨fun _ => rfl, fun hok => leafT ?_⟩⟩
  have x1 : (workedR c a m).2.1 = 0 := Decidable.byContradiction fun h => hok (.inl (.inl h))
  have x2 : (workedR c m b).2.1 = 0 := Decidable.byContradiction fun h => hok (.inl (.inr h))
  have x3 : (workedR c a b).2.1 = 0 := Decidable.byContradiction fun h => hok (.inr h)
  obtain ⟨ho, hcf, ha, hm, r1⟩ := workedR_ok x1
  obtain ⟨_, _, _, hb, r2⟩ := workedR_ok x2
  obtain ⟨_, _, _, _, r3⟩ := workedR_ok x3
  have e1 := workedR_eq hcf ha hm r1
  have e2 := workedR_eq hcf hm hb r2
  have e3 := workedR_eq hcf ha hb r3
  have y1 := N_mono (c := c) (a := a) (b := m) (by omega) (by omega)
  have y2 := N_mono (c := c) (a := m) (b := b) (by omega) (by omega)
  rw [e1, e2, e3]
  simp only
  have e4 : IntKind.wrap .i64 (N c m - N c a + (N c b - N c m)) = N c b - N c a := by rw [wrap64 (by omega) (by omega)]; omega
  have e5 : IntKind.wrap .i64 (b - a) = b - a := by rw [wrap64 (by omega) (by omega)]
  rw [e4, e5, Bool.and_eq_true, Bool.and_eq_true, beq_iff_eq, decide_eq_true_eq, decide_eq_true_eq]
  omega

theorem addTakes_run {f n1 n2 n3 n4 : Nat} (hF : F f = some (rf_LCalendarAddTakesMinutes n1 n2 n3 n4)) (h1 : Time2C F n1 addR) (h2 : Time2C F n2 workedR) (h3 : OpenC F n3) (h4 : CalExC F n4) {fl : Nat} {H : Heap} {w h : AV} {c : Calr} {t m : Int} (hc : CalA H w h c) (hfl : fl ≤ H.length) : Ret F fl f [calV w h, i64 t, i64 m] H tru := by
  refine v_LCalendarAddTakesMinutes hF _ _ _ _ ?_
  intro H5 d5
  have k5 := d5.keep
  refine h1 (hc.keep k5) (k5.fl hfl) fun H9 k9 => ⟨_, _, _, rfl, fun H11 d11 => ?_⟩
  have k11 := (k5.call k9).call d11.keep
  refine h2 (hc.keep k11) (k11.fl hfl) fun H15 k15 => ⟨_, _, _, rfl, fun H17 d17 => ?_⟩
  have k17 := (k11.call k15).call d17.keep
  refine h3 (hc.keep k17) (k17.fl hfl) fun H21 k21 => ⟨_, _, _, rfl, fun H23 d23 => ?_⟩
  have k23 := (k17.call k21).call d23.keep
  refine h4 (k23.fl hfl) fun H25 k25 => ⟨_, rfl, fun h => absurd rfl h, fun _ => ⟨fun _ => rfl, fun hok => leafT ?_⟩⟩
  have x1 : (addR c t m).2.1 = 0 := Decidable.byContradiction fun h => hok (.inl h)
  have x2 : ¬ (addR c t m).1 > 10000000 := fun h => hok (.inr h)
  obtain ⟨ho, hcf, ht, hm, u, e, u1, u2, u3, u4, u5⟩ := addR_ok x1
  rw [e] at x2
  rw [e]
  simp only at x2 ⊢
  rw [workedR_eq hcf ht (by omega) (by omega)]
  have e1 : IntKind.wrap .i64 (u - 1) = u - 1 := by rw [wrap64 (by omega) (by omega)]
  rw [e1]
  rw [Bool.and_eq_true, Bool.and_eq_true, Bool.and_eq_true, Bool.or_eq_true, Bool.and_eq_true, Bool.and_eq_true, Bool.and_eq_true]
  simp only [beq_iff_eq, decide_eq_true_eq]
  refine ⟨⟨⟨trivial, by omega⟩, u1⟩, ?_⟩
  by_cases hz : m = 0
  · exact .inl ⟨hz, u4 hz⟩
  · obtain ⟨v1, v2⟩ := u5 (by omega)
    rw [openR_eq hcf (by omega)]
    exact .inr ⟨⟨by omega, rfl⟩, v2⟩

theorem nextFirst_run {f n1 n2 n3 n4 : Nat} (hF : F f = some (rf_LCalendarNextIsFirst n1 n2 n3 n4)) (h1 : TimeC F n1 nextR) (h2 : OpenC F n2) (h3 : Time2C F n3 workedR) (h4 : CalExC F n4) {fl : Nat} {H : Heap} {w h : AV} {c : Calr} {t : Int} (hc : CalA H w h c) (hfl : fl ≤ H.length) : Ret F fl f [calV w h, i64 t] H tru := by
  refine v_LCalendarNextIsFirst hF _ _ _ ?_
  intro H5 d5
  have k5 := d5.keep
  refine h1 (hc.keep k5) (k5.fl hfl) fun H9 k9 => ⟨_, _, _, rfl, fun H11 d11 => ?_⟩
  have k11 := (k5.call k9).call d11.keep
  refine h2 (hc.keep k11) (k11.fl hfl) fun H15 k15 => ⟨_, _, _, rfl, fun H17 d17 => ?_⟩
  have k17 := (k11.call k15).call d17.keep
  refine h3 (hc.keep k17) (k17.fl hfl) fun H21 k21 => ⟨_, _, _, rfl, fun H23 d23 => ?_⟩
  have k23 := (k17.call k21).call d23.keep
  refine h4 (k23.fl hfl) fun H25 k25 => ⟨_, rfl, fun h => absurd rfl h, fun _ => ⟨fun _ => rfl, fun hok => leafT ?_⟩⟩
  have x1 : (nextR c t).2.1 = 0 := Decidable.byContradiction fun h => hok (.inl h)
  have x2 : ¬ (nextR c t).1 > 10000000 := fun h => hok (.inr h)
  obtain ⟨ho, hcf, ht, u, e, u1, u2, u3, u4⟩ := nextR_ok x1
  rw [e] at x2
  rw [e]
  simp only at x2 ⊢
  rw [workedR_eq hcf ht (by omega) (by omega), openR_eq hcf (by omega), u3]
  have : N c u - N c t = 0 := by omega
  rw [this, decide_eq_true u1]
  rfl

/-- Without holidays. -/
def plainC (c : Calr) : Calr := ⟨c.ws, []⟩
theorem plain_op {c : Calr} (t : Int) : op (plainC c) (t + 10080) = op (plainC c) t := by
  unfold op weekly plainC
  simp only [List.not_mem_nil, decide_false]
  rw [Int.add_emod_right]
theorem plain_N {c : Calr} {a b : Int} (h0 : 0 ≤ a) (h : a ≤ b) : N (plainC c) (b + 10080) - N (plainC c) (a + 10080) = N (plainC c) b - N (plainC c) a := by
  have := count_N (c := plainC c) (g := fun t => N (plainC c) (t + 10080)) h0 h fun t h1 h2 => by
    show N (plainC c) (t + 1 + 10080) = N (plainC c) (t + 10080) + _
    rw [show t + 1 + 10080 = (t + 10080) + 1 from by omega, N_succ (by omega), plain_op]
  omega

theorem repeats_run {f n1 n2 n3 : Nat} (hF : F f = some (rf_LCalendarRepeatsWeekly n1 n2 n3)) (h1 : OpenC F n1) (h2 : Time2C F n2 workedR) (h3 : CalExC F n3) {fl : Nat} {H : Heap} {w h : AV} {c : Calr} {a b : Int} (ha : in64 a) (hb : in64 b) (hc : CalA H w h c) (hfl : fl ≤ H.length) : Ret F fl f [calV w h, i64 a, i64 b] H tru := by
  refine v_LCalendarRepeatsWeekly hF _ _ _ _ ?_
  intro H4 d4
  refine ⟨hc.ws.scal, fun H6 d6 => ?_⟩
  have hp : CalA H w .empty (plainC c) := ⟨hc.ws, Arr.nil⟩
  have k6 := d4.keep.call d6.keep
  refine h1 (hp.keep k6) (k6.fl hfl) fun H10 k10 => ⟨_, _, _, rfl, fun H12 d12 => ?_⟩
  have k12 := (k6.call k10).call d12.keep
  refine h1 (hp.keep k12) (k12.fl hfl) fun H16 k16 => ⟨_, _, _, rfl, fun H18 d18 => ?_⟩
  have k18 := (k12.call k16).call d18.keep
  refine h2 (hp.keep k18) (k18.fl hfl) fun H22 k22 => ⟨_, _, _, rfl, fun H24 d24 => ?_⟩
  have k24 := (k18.call k22).call d24.keep
  refine h2 (hp.keep k24) (k24.fl hfl) fun H28 k28 => ⟨_, _, _, rfl, fun H30 d30 => ?_⟩
  have k30 := (k24.call k28).call d30.keep
  refine h3 (k30.fl hfl) fun H32 k32 => ⟨_, rfl, fun h => absurd rfl h, fun _ => leafT ?_⟩
  rw [Bool.and_eq_true, Bool.or_eq_true, Bool.or_eq_true, Bool.or_eq_true, Bool.or_eq_true]
  simp only [bne_iff_ne, beq_iff_eq]
  unfold in64 at ha hb
  constructor
  · by_cases x1 : (openR (plainC c) a).2.1 = 0
    · by_cases x2 : (openR (plainC c) (IntKind.wrap .i64 (a + 10080))).2.1 = 0
      · right
        obtain ⟨_, hcf, h1⟩ := openR_ok x1
        obtain ⟨_, _, h2⟩ := openR_ok x2
        have e1 : IntKind.wrap .i64 (a + 10080) = a + 10080 := by rw [wrap64 (by omega) (by omega)]
        rw [e1] at h2 ⊢
        rw [openR_eq hcf h1, openR_eq hcf h2]
        exact (plain_op a).symm
      · exact .inl (.inr x2)
    · exact .inl (.inl x1)
  · by_cases x1 : (workedR (plainC c) a b).2.1 = 0
    · by_cases x2 : (workedR (plainC c) (IntKind.wrap .i64 (a + 10080)) (IntKind.wrap .i64 (b + 10080))).2.1 = 0
      · right
        obtain ⟨_, hcf, h1, h2, h3⟩ := workedR_ok x1
        obtain ⟨_, _, h4, h5, h6⟩ := workedR_ok x2
        have e1 : IntKind.wrap .i64 (a + 10080) = a + 10080 := by rw [wrap64 (by omega) (by omega)]
        have e2 : IntKind.wrap .i64 (b + 10080) = b + 10080 := by rw [wrap64 (by omega) (by omega)]
        rw [e1] at h4 h6 ⊢
        rw [e2] at h5 h6 ⊢
        rw [workedR_eq hcf h1 h2 h3, workedR_eq hcf h4 h5 h6]
        exact (plain_N (by omega) (by omega)).symm
      · exact .inl (.inr x2)
    · exact .inl (.inl x1)

/-! ### The specification -/

def timeF (v : Int × Int) (t : Int) : Int × Int := if v.1 = 0 ∧ (t < 0 ∨ t > 10000000) then (3, -20) else v
abbrev TimeFC (F : Nat → Option RFunc) (f : Nat) : Prop := ∀ {fl H Q} {v w t : Int}, (∀ H', Keep H.length H H' → Q (fp2 (timeF (v, w) t)) H') → Ret F fl f [flt v w, i64 t] H Q
theorem timeFault_c {f n1 : Nat} (hF : F f = some (rf_LtimeFault n1)) (h1 : FFaultC F n1) : TimeFC F f := fun {fl H Q v w t} hq => by
  refine v_LtimeFault hF _ _ _ ?_
  intro H3 d3 H4 d4
  have k4 := d3.keep.call d4.keep
  unfold timeF at hq
  refine ⟨fun hb => h1 fun H7 k7 => ⟨_, _, rfl, ?_⟩, fun hb => ?_⟩
  · rw [if_pos hb] at hq; exact hq H7 (k4.call k7)
  · rw [if_neg hb] at hq; exact hq H4 k4

theorem next_reach {c : Calr} {t : Int} (t0 : 0 ≤ t) : (findFrom (op c) t 500001 = none ∧ reachR c t (N c t + 1) 500001 = -1) ∨ ∃ u, findFrom (op c) t 500001 = some u ∧ t ≤ u ∧ u ≤ t + 500000 ∧ reachR c t (N c t + 1) 500001 = u + 1 := by
  unfold reachR
  cases hf : findFrom (op c) t 500001 with
  | none =>
    left
    have hno := findFrom_no hf
    rw [findFrom_none fun s h1 h2 => decide_eq_false (by
      have := N_flat (c := c) t0 h1 fun u h3 h4 => hno u h3 (by omega)
      omega)]
    exact ⟨rfl, rfl⟩
  | some u =>
    right
    obtain ⟨x1, x2, x3, x4⟩ := findFrom_spec hf
    have y1 := N_flat (c := c) t0 x1 x4
    have y2 := N_succ (c := c) (t := u) (by omega)
    rw [x3] at y2
    have : b2n true = 1 := rfl
    rw [findFrom_eq (p := fun v => decide (N c v ≥ N c t + 1)) (u := u + 1) (by omega) (by omega) (decide_eq_true (by omega)) fun s h1 h2 => decide_eq_false (by
      have := (N_mono (c := c) (a := s) (b := u) (by omega) (by omega)).1
      omega)]
    exact ⟨u, rfl, x1, by omega, rfl⟩

theorem add_reach {c : Calr} {t m : Int} (t0 : 0 ≤ t) : (findFrom (fun u => decide (N c u ≥ N c t + m)) t 500001 = none ∧ reachR c t (N c t + m) 500000 = -1) ∨ ∃ u, findFrom (fun u => decide (N c u ≥ N c t + m)) t 500001 = some u ∧ 0 ≤ u ∧ reachR c t (N c t + m) 500000 = u := by
  unfold reachR
  rw [show 500000 + 1 = 500001 from rfl]
  cases hf : findFrom (fun u => decide (N c u ≥ N c t + m)) t 500001 with
  | none => exact .inl ⟨rfl, rfl⟩
  | some u => exact .inr ⟨u, rfl, by have := (findFrom_spec hf).1; omega, rfl⟩

theorem spec_run {f n1 n2 n3 n4 n5 n6 n7 n8 n9 n10 n11 n12 : Nat} (hF : F f = some (rf_LCalendarFunctionsMatchSpec n1 n2 n3 n4 n5 n6 n7 n8 n9 n10 n11 n12)) (h1 : CalFaultC F n1) (h2 : OpenC F n2) (h3 : TimeC F n3 nextR) (h4 : Time2C F n4 workedR) (h5 : Time2C F n5 addR) (h6 : CalExC F n6) (h7 : CalFaultC F n7) (h8 : TimeFC F n8) (h9 : IsOpenC F n9) (h10 : MinutesC F n10) (h11 : ReachC F n11) (h12 : FFaultC F n12) {fl : Nat} {H : Heap} {w h : AV} {c : Calr} {t to m : Int} (hc : CalA H w h c) (hfl : fl ≤ H.length) : Ret F fl f [calV w h, i64 t, i64 to, i64 m] H tru := by
  refine v_LCalendarFunctionsMatchSpec hF _ _ _ _ _ ?_
  intro H5 d5
  have k5 := d5.keep
  refine h1 (hc.keep k5) fun H8 k8 => ⟨_, _, rfl, fun H10 d10 => ?_⟩
  have k10 := (k5.call k8).call d10.keep
  refine h2 (hc.keep k10) (k10.fl hfl) fun H14 k14 => ⟨_, _, _, rfl, fun H16 d16 => ?_⟩
  have k16 := (k10.call k14).call d16.keep
  refine h3 (hc.keep k16) (k16.fl hfl) fun H20 k20 => ⟨_, _, _, rfl, fun H22 d22 => ?_⟩
  have k22 := (k16.call k20).call d22.keep
  refine h4 (hc.keep k22) (k22.fl hfl) fun H26 k26 => ⟨_, _, _, rfl, fun H28 d28 => ?_⟩
  have k28 := (k22.call k26).call d28.keep
  refine h5 (hc.keep k28) (k28.fl hfl) fun H32 k32 => ⟨_, _, _, rfl, fun H34 d34 => ?_⟩
  have k34 := (k28.call k32).call d34.keep
  refine h6 (k34.fl hfl) fun H36 k36 => ⟨_, rfl, fun h => absurd rfl h, fun _ => ?_⟩
  have k36 := k34.call k36
  refine h7 (hc.keep k36) fun H40 k40 => ⟨_, _, rfl, fun h => absurd ⟨rfl, rfl, trivial⟩ h, fun _ => ?_⟩
  have k40 := k36.call k40
  refine h8 fun H44 k44 => ⟨_, _, rfl, fun hne => leafT ?_, fun he => ?_⟩
  · -- faulty
    have ht : timeF ((calFault c).1, (calFault c).2) t = checkR c [t] ∧ (∀ u, checkR c [t, u] = checkR c [t]) ∧ (checkR c [t]).1 ≠ 0 := by
      unfold timeF at hne ⊢
      unfold checkR
      simp only [timesBad1, timesBad2] at hne ⊢
      by_cases hcf : (calFault c).1 = 0
      · by_cases hb : t < 0 ∨ t > 10000000
        · rw [if_pos ⟨hcf, hb⟩]
          simp [hcf, hb]
        · rw [if_neg fun h => hb h.2] at hne; exact absurd hcf hne
      · rw [if_neg fun h => hcf h.1]
        simp [hcf]
    obtain ⟨e1, e2, e3⟩ := ht
    rw [e1]
    unfold openR nextR workedR addR
    rw [e2, if_neg e3, if_neg e3, if_neg e3, if_neg e3]
    simp
  have k44 := k40.call k44
  have he := Decidable.not_not.1 he
  have hcf : (calFault c).1 = 0 ∧ (0 ≤ t ∧ t ≤ 10000000) ∧ timeF ((calFault c).1, (calFault c).2) t = (0, 0) := by
    unfold timeF at he ⊢
    split at he
    · cases he
    · rename_i h
      have he : (calFault c).1 = 0 := he
      exact ⟨he, by simp only at h; omega, by rw [if_neg h, (calFault_ok he).2]⟩
  obtain ⟨hcf, ht, et⟩ := hcf
  have ho := (calFault_ok hcf).1
  rw [et, openR_eq hcf ht]
  have hnb := N_mono (c := c) (a := 0) (b := t) (by omega) (by omega)
  have hn0 : N c 0 = 0 := rfl
  refine ⟨fun h => absurd rfl h, fun _ => ?_⟩
  refine h9 (hc.keep k44) ho (by omega) (by omega) fun H47 k47 => ⟨_, rfl, fun h => absurd rfl h, fun _ => ?_⟩
  have k47 := k44.call k47
  refine h10 (hc.keep k47) ho (by omega) (by omega) fun H50 k50 => ⟨_, rfl, ?_⟩
  have k50 := k47.call k50
  rw [show IntKind.wrap .i64 (N c t + 1) = N c t + 1 from by rw [wrap64 (by omega) (by omega)]]
  refine h11 (span := 500001) (hc.keep k50) ho (by omega) (by omega) (by omega) fun H53 k53 => ⟨_, rfl, ?_⟩
  have k53 := k50.call k53
  have enx : nextR c t = (match findFrom (op c) t 500001 with | some u => (u, (0, 0)) | none => (0, (6, -21))) := by
    unfold nextR; rw [checkR_eq hcf (ok1 ht), if_pos rfl]; rfl
  refine ⟨fun H' => Keep H.length H H', ⟨fun hneg => h12 fun H63 k63 => ⟨_, _, rfl, ?_⟩, fun hpos => ?_⟩, fun H60 k60 => ?_⟩
  · rcases next_reach (c := c) (t := t) ht.1 with ⟨f1, f2⟩ | ⟨u, f1, f2, f3, f4⟩
    · rw [f1] at enx
      rw [enx]
      exact ⟨fun h => by simp at h, fun _ => k53.call k63⟩
    · rw [f4] at hneg; omega
  · rcases next_reach (c := c) (t := t) ht.1 with ⟨f1, f2⟩ | ⟨u, f1, f2, f3, f4⟩
    · rw [f2] at hpos; omega
    · rw [f1] at enx
      rw [enx, f4, show IntKind.wrap .i64 (u + 1 - 1) = u from by rw [wrap64 (by omega) (by omega)]; omega]
      exact ⟨fun h => by simp at h, fun _ => k53⟩
  refine h8 fun H67 k67 => ⟨_, _, rfl, fun H69 d69 => ?_⟩
  have k69 := (k60.call k67).call d69.keep
  -- the fault of Worked
  refine ⟨fun x y H' => Keep H.length H H' ∧ (x, y) = (if (checkR c [t, to]).1 = 0 then (if to < t ∨ to - t > 500000 then (3, -21) else (0, 0)) else checkR c [t, to]), ⟨fun hb => h12 fun H77 k77 => ⟨_, _, rfl, k69.call k77, ?_⟩, fun hb => ⟨k69, ?_⟩⟩, ?_⟩
  · have hto : timeF (0, 0) to = (0, 0) ∧ (0 ≤ to ∧ to ≤ 10000000) := by
      have := hb.1
      unfold timeF at this ⊢
      split at this
      · cases this
      · rename_i h; exact ⟨by rw [if_neg h], by simp only [true_and] at h; omega⟩
    have hb := hb.2
    rw [show IntKind.wrap .i64 (to - t) = to - t from by rw [wrap64 (by omega) (by omega)]] at hb
    rw [checkR_eq hcf (ok2 ht hto.2), if_pos rfl, if_pos hb]
  · by_cases hto : 0 ≤ to ∧ to ≤ 10000000
    · have e1 : timeF (0, 0) to = (0, 0) := by unfold timeF; rw [if_neg (by simp only [true_and]; omega)]
      rw [e1] at hb
      rw [show IntKind.wrap .i64 (to - t) = to - t from by rw [wrap64 (by omega) (by omega)]] at hb
      rw [checkR_eq hcf (ok2 ht hto), if_pos rfl, if_neg fun h => hb ⟨rfl, h⟩, e1]
    · have e1 : timeF (0, 0) to = (3, -20) := by unfold timeF; rw [if_pos (by simp only [true_and]; omega)]
      have e2 : checkR c [t, to] = (3, -20) := by
        unfold checkR
        rw [if_pos hcf, timesBad2, decide_eq_true (p := to < 0 ∨ to > 10000000) (by omega), Bool.or_true, if_pos rfl]
      rw [e1, e2, if_neg (by decide)]
  rintro x y H74 ⟨k74, hxy⟩
  refine ⟨fun H' => Keep H.length H H', ⟨fun hne => ?_, fun heq => ?_⟩, fun H84 k84 => ?_⟩
  · have : workedR c t to = (0, (x, y)) := by
      unfold workedR
      rw [hxy]
      split
      · rename_i h
        rw [if_pos h] at hxy
        split
        · rfl
        · rename_i h2
          rw [if_neg h2] at hxy
          cases hxy; exact absurd rfl hne
      · rfl
    rw [this]
    exact ⟨fun h => by simp at h, fun _ => k74⟩
  · have heq := Decidable.not_not.1 heq
    have hr : (0 ≤ to ∧ to ≤ 10000000) ∧ t ≤ to ∧ to - t ≤ 500000 := by
      split at hxy
      · rename_i h
        obtain ⟨_, ht2, _, _⟩ := checkR_ok h
        split at hxy
        · rename_i h2; cases hxy; cases heq
        · exact ⟨(time2 ht2).2, by omega⟩
      · rename_i h; rw [← hxy] at h; exact absurd heq h
    obtain ⟨hto, hr⟩ := hr
    rw [workedR_eq hcf ht hto hr]
    refine ⟨fun h => absurd rfl h, fun _ => ?_⟩
    have hnb2 := N_mono (c := c) (a := t) (b := to) (by omega) (by omega)
    refine h10 (hc.keep k74) ho (by omega) (by omega) fun H86 k86 => ⟨_, rfl, ?_⟩
    have k86 := k74.call k86
    refine h10 (hc.keep k86) ho (by omega) (by omega) fun H89 k89 => ⟨_, rfl, ?_⟩
    rw [show IntKind.wrap .i64 (N c to - N c t) = N c to - N c t from by rw [wrap64 (by omega) (by omega)]]
    exact ⟨fun h => absurd rfl h, fun _ => k86.call k89⟩
  · refine ⟨fun hb => h12 fun H93 k93 => ⟨_, _, rfl, leafT ?_⟩, fun hb => ?_⟩
    · have : addR c t m = (0, (3, -21)) := by
        unfold addR; rw [checkR_eq hcf (ok1 ht), if_pos rfl, if_pos hb]
      rw [this]; rfl
    · have eadd : addR c t m = (match findFrom (fun u => decide (N c u ≥ N c t + m)) t 500001 with | some u => (u, (0, 0)) | none => (0, (6, -22))) := by
        unfold addR; rw [checkR_eq hcf (ok1 ht), if_pos rfl, if_neg hb]; rfl
      refine h10 (hc.keep k84) ho (by omega) (by omega) fun H96 k96 => ⟨_, rfl, ?_⟩
      have k96 := k84.call k96
      rw [show IntKind.wrap .i64 (N c t + m) = N c t + m from by rw [wrap64 (by omega) (by omega)]]
      refine h11 (span := 500000) (hc.keep k96) ho (by omega) (by omega) (by omega) fun H99 k99 => ⟨_, rfl, fun hneg => h12 fun H103 k103 => ⟨_, _, rfl, leafT ?_⟩, fun hpos => leafT ?_⟩
      · rcases add_reach (c := c) (t := t) (m := m) ht.1 with ⟨f1, f2⟩ | ⟨u, f1, f2, f3⟩
        · rw [f1] at eadd
          rw [eadd]; rfl
        · rw [f3] at hneg; omega
      · rcases add_reach (c := c) (t := t) (m := m) ht.1 with ⟨f1, f2⟩ | ⟨u, f1, f2, f3⟩
        · rw [f2] at hpos; omega
        · rw [f1] at eadd
          rw [eadd, f3]; simp

end Go.RM
