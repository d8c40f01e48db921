/-
  The functions of canary answer as the reference says, over the abstract machine.
-/
import Derived.Test.YtebpodfildpgbaaCanE
namespace Go.RM
set_option linter.unusedSimpArgs false
set_option linter.unusedVariables false
set_option maxRecDepth 8000

variable {F : Nat → Option RFunc}

theorem sides_c {f n1 n2 : Nat} (hF : F f = some (rf_LsidesFault n1 n2)) (h1 : CountsValidC F n1) (h2 : FFaultC F n2) : TwoC F f := fun {fl H Q g1 b1 g2 b2} hq => by
  refine v_LsidesFault hF _ _ _ _ ?_
  intro H4 d4 H5 d5 H6 d6
  have k6 := (d4.keep.call d5.keep).call d6.keep
  unfold twoR at hq
  refine h1 fun H8 k8 => ⟨_, rfl, fun h => ?_, fun h => h1 fun H15 k15 => ⟨_, rfl, fun h' => ?_, fun h' => ?_⟩⟩
  · refine h2 fun H12 k12 => ⟨_, _, rfl, ?_⟩
    rw [if_neg (by simpa using h)] at hq
    exact hq H12 ((k6.call k8).call k12)
  · refine h2 fun H19 k19 => ⟨_, _, rfl, ?_⟩
    rw [if_pos (by simpa using h), if_neg (by simpa using h')] at hq
    exact hq H19 (((k6.call k8).call k15).call k19)
  · rw [if_pos (by simpa using h), if_pos (by simpa using h')] at hq
    exact hq H15 ((k6.call k8).call k15)

theorem cspec_run {f n1 n2 n3 n4 n5 n6 n7 n8 n9 n10 : Nat} (hF : F f = some (rf_LCanaryFunctionsMatchSpec n1 n2 n3 n4 n5 n6 n7 n8 n9 n10)) (h1 : TailC F n1) (h2 : DecideC F n2) (h3 : TolC F n3) (h4 : CExampleC F n4) (h5 : ValidC F n5) (h6 : CountsValidC F n6) (h7 : FFaultC F n7) (h8 : TwoC F n8) (h9 : WaysC F n9) (h10 : VerdictC F n10)
    {fl : Nat} {H : Heap} {g1 b1 g2 b2 need pm : Int} (hfl : fl ≤ H.length) : Ret F fl f [cnt g1 b1, cnt g2 b2, i64 need, i64 pm] H tru := by
  refine v_LCanaryFunctionsMatchSpec hF _ _ _ _ _ _ ?_
  intro H6 d6 H7 d7
  have k7 := d6.keep.call d7.keep
  refine h1 (k7.fl hfl) fun H12 k12 => ⟨_, _, _, _, rfl, fun H14 d14 => ?_⟩
  have k14 := (k7.call k12).call d14.keep
  refine h2 (k14.fl hfl) fun H18 k18 => ⟨_, _, _, rfl, fun H20 d20 => ?_⟩
  have k20 := (k14.call k18).call d20.keep
  refine h3 (k20.fl hfl) fun H24 k24 => ⟨_, _, _, rfl, fun H26 d26 => ?_⟩
  have k26 := (k20.call k24).call d26.keep
  have hok1 : ((validR g1 b1).1 == 0) = decide (okC g1 b1) := by unfold validR; by_cases o : okC g1 b1 <;> simp [o]
  refine ⟨fun H' => Keep H.length H H', h4 (k26.fl hfl) fun H32 k32 => ⟨_, rfl, fun h => absurd rfl h, fun _ => h5 fun H36 k36 => ⟨_, _, rfl, h6 fun H39 k39 => ⟨_, rfl, fun h => absurd hok1 h, fun _ => h6 fun H42 k42 => ⟨_, rfl, fun hno => h5 fun H46 k46 => ⟨_, _, rfl, h7 fun H50 k50 => ⟨_, _, rfl, fun h => ?_, fun _ => ((((((k26.call k32).call k36).call k39).call k42).call k46).call k50)⟩⟩, fun _ => (((k26.call k32).call k36).call k39).call k42⟩⟩⟩⟩, ?_⟩
  · exfalso
    have hno : ¬ okC g1 b1 := by simpa using hno
    unfold validR at h
    rw [if_neg hno] at h
    exact h ⟨rfl, rfl, trivial⟩
  intro H30 k30
  refine h8 fun H54 k54 => ⟨_, _, rfl, fun H56 d56 => ?_⟩
  have k56 := (k30.call k54).call d56.keep
  refine ⟨fun H' => Keep H.length H H', ⟨fun hne => ⟨fun h => ?_, fun _ => k56⟩, fun he => ?_⟩, ?_⟩
  · exfalso
    have e1 : tailR g1 b1 g2 b2 = (0, 0, twoR g1 b1 g2 b2) := by unfold tailR; rw [if_neg hne]
    have e2 : decideR g1 b1 g2 b2 need pm = (0, twoR g1 b1 g2 b2) := by unfold decideR; rw [if_neg hne]
    rw [e1, e2] at h
    rcases h with (((h | h) | h) | h) | h
    · exact h ⟨rfl, rfl, trivial⟩
    · exact h ⟨rfl, rfl, trivial⟩
    · exact h rfl
    · exact h rfl
    · exact h rfl
  · have he := Decidable.not_not.1 he
    obtain ⟨o1, o2, _⟩ := twoR_ok he
    obtain ⟨w0, w1, w2, _⟩ := ways_le o1 o2
    refine h9 o1 o2 (k56.fl hfl) fun H67 k67 => ⟨_, _, rfl, fun h => ?_, fun _ => k56.call k67⟩
    exfalso
    rw [tailR_of o1 o2] at h
    unfold waysR at h
    simp only at h
    rw [wrap64 (by omega) (by omega)] at h
    omega
  intro H64 k64
  refine ⟨fun H' => Keep H.length H H', ⟨fun hc => ?_, fun _ => k64⟩, ?_⟩
  · obtain ⟨he, hp⟩ := hc
    refine h7 fun H76 k76 => ⟨_, _, rfl, fun h => ?_, fun _ => k64.call k76⟩
    exfalso
    have e2 : decideR g1 b1 g2 b2 need pm = (0, (3, -3)) := by unfold decideR; rw [if_pos he, if_neg (by unfold okP; omega)]
    rw [e2] at h
    rcases h with h | h
    · exact h ⟨rfl, rfl, trivial⟩
    · exact h rfl
  intro H73 k73
  refine ⟨fun H' => Keep H.length H H', ⟨fun he => ⟨fun hp => ?_, fun _ => k73⟩, fun _ => k73⟩, ?_⟩
  · obtain ⟨o1, o2, _⟩ := twoR_ok he
    have e2 : decideR g1 b1 g2 b2 need pm = (verdictI g1 b1 g2 b2 need pm, (0, 0)) := by unfold decideR; rw [if_pos he, if_pos (by unfold okP; omega)]
    rw [e2]
    exact ⟨fun h => absurd rfl h, fun _ => h10 o1 o2 (by omega) (by omega) (k73.fl hfl) fun H83 k83 => ⟨_, rfl, fun h => absurd rfl h, fun _ => k73.call k83⟩⟩
  intro H81 k81 H85 d85
  have k85 := k81.call d85.keep
  -- the tolerated number
  refine ⟨fun c i H' => (c, i) = tolFault g1 b1 need pm ∧ Keep H.length H H', h6 fun H94 k94 => ⟨_, rfl, fun hno => ?_, fun hyes => ⟨fun hn => ?_, fun hn => ⟨fun hp => ?_, fun hp => ?_⟩⟩⟩, ?_⟩
  · refine h7 fun H98 k98 => ⟨_, _, rfl, ?_, (k85.call k94).call k98⟩
    unfold tolFault; rw [if_neg (by simpa using hno)]
  · refine h7 fun H98 k98 => ⟨_, _, rfl, ?_, (k85.call k94).call k98⟩
    unfold tolFault; rw [if_pos (by simpa using hyes), if_neg (by omega)]
  · refine h7 fun H98 k98 => ⟨_, _, rfl, ?_, (k85.call k94).call k98⟩
    unfold tolFault; rw [if_pos (by simpa using hyes), if_pos (by omega), if_neg (by omega)]
  · refine ⟨?_, k85.call k94⟩
    unfold tolFault; rw [if_pos (by simpa using hyes), if_pos (by omega), if_pos (by omega)]
  rintro c i H92 ⟨hci, k92⟩
  have hc : c = (tolFault g1 b1 need pm).1 := by rw [← hci]
  have hi : i = (tolFault g1 b1 need pm).2 := by rw [← hci]
  rw [hc, hi]
  refine ⟨fun hne => leaf ?_, fun h0 => ?_⟩
  · have e : tolR g1 b1 need pm = (0, tolFault g1 b1 need pm) := by unfold tolR; rw [if_neg hne]
    rw [e]; simp
  · have h0 := Decidable.not_not.1 h0
    obtain ⟨o, s, p, _⟩ := tolFault_ok h0
    have e : tolR g1 b1 need pm = (((lastK (passK g1 b1 need.toNat pm) need.toNat : Nat) : Int), (0, 0)) := by unfold tolR; rw [if_pos h0]
    rw [e]
    have hle := lastK_le (passK g1 b1 need.toNat pm) need.toNat
    obtain ⟨N, rfl⟩ : ∃ N : Nat, need = N := ⟨need.toNat, by omega⟩
    rw [Int.toNat_natCast] at hle ⊢
    have hf := fun k hk => fails_iff (k := k) (pm := pm) o hk (show N ≤ 25 by omega) p.2
    generalize lastK (passK g1 b1 N pm) N = t at *
    refine ⟨fun h => ?_, fun _ => ?_⟩
    · exfalso; simp only at h; omega
    · have ew : IntKind.wrap .i64 ((N : Int) - (t : Int)) = (N : Int) - t := by rw [wrap64 (by omega) (by omega)]
      simp only
      rw [ew]
      refine h10 o (by unfold okC; omega) p.1 p.2 (k92.fl hfl) fun H109 k109 => ⟨_, rfl, fun h => ?_, fun _ => ?_⟩
      · exfalso; have := (hf t hle).1 h; omega
      · refine ⟨fun m k H' => ∃ q : Nat, k = q ∧ t < q ∧ q + m = N + 1 ∧ Keep H.length H H', N - t, ⟨t + 1, by rw [wrap64 (by omega) (by omega)]; omega, by omega, by omega, k92.call k109⟩, ?_⟩
        rintro m _ H' ⟨q, rfl, hq, hm, hk⟩
        refine ⟨fun hle => ?_, fun _ => trivial⟩
        have eq : IntKind.wrap .i64 ((N : Int) - (q : Int)) = (N : Int) - q := by rw [wrap64 (by omega) (by omega)]
        rw [eq]
        refine h10 o (by unfold okC; omega) p.1 p.2 (hk.fl hfl) fun H120 k120 => ⟨_, rfl, fun h => ?_, fun _ => ⟨m - 1, by omega, q + 1, by rw [wrap64 (by omega) (by omega)]; omega, by omega, by omega, hk.call k120⟩⟩
        exact absurd ((hf q (by omega)).2 hq) h

end Go.RM
