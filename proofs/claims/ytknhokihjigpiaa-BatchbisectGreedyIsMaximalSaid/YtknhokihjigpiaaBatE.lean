/-
  The laws of batchbisect over the abstract machine.
-/
import Derived.Test.YtknhokihjigpiaaBatL
import Derived.Test.YtknhokihjigpiaaPlBat
import Derived.Test.YtknhokihjigpiaaRmCore
namespace Go.RM
set_option linter.unusedSimpArgs false
set_option linter.unusedVariables false
open Bat

variable {F : Nat → Option RFunc}


abbrev ExampleC (F : Nat → Option RFunc) (f : Nat) : Prop := ∀ {fl H Q}, fl ≤ H.length → (∀ H', Keep H.length H H' → Q (.bool true) H') → Ret F fl f [] H Q

theorem bisectExample_c {f n1 n2 n3 n4 n5 : Nat} (hF : F f = some (rf_LbisectExample n1 n2 n3 n4 n5)) (h1 : FirstC F n1) (h2 : MinimalC F n2) (h3 : GreedyC F n3) (h4 : FailsC F n4) (h5 : FEqualIntsC F n5) : ExampleC F f := fun {fl H Q} hfl hq => by
  refine v_LbisectExample hF ?_
  intro b0 H1 d1 b2 H3 d3
  have k3 := d1.keep.call d3.keep
  have a1 : Lists H3 (.slice b2 0 1 (some 1)) [[2]] := d3.lists ⟨d1.ints [2] rfl rfl, trivial⟩ rfl
  have e1 : firstR 4 [[2]] = (2, [4, 2, 3], (0, 0)) := by decide
  have e2 : minimalR 4 [[0, 3], [1, 2]] = ([1, 2], (0, 0)) := by decide
  have e3 : greedyR 3 [[0, 1]] = ([0, 2], (0, 0)) := by decide
  have e4 : failsR 3 [[1, 2]] [0, 1, 2] = (true, (0, 0)) := by decide
  refine h1 a1 (k3.fl hfl) fun w8 H8 k8 hw8 => ⟨_, _, _, _, rfl, fun H10 d10 b11 H12 d12 b13 H14 d14 b15 H16 d16 => ?_⟩
  rw [e1] at hw8
  have a2 : Lists H16 (.slice b15 0 2 (some 2)) [[0, 3], [1, 2]] := d16.lists ⟨(d12.ints [0, 3] rfl rfl).keep d14.keep, d14.ints [1, 2] rfl rfl, trivial⟩ rfl
  have k16 := ((((k3.call k8).call d10.keep).call d12.keep).call d14.keep).call d16.keep
  have hw16 := (((hw8.keep d10.keep).keep d12.keep).keep d14.keep).keep d16.keep
  refine h2 a2 (k16.fl hfl) fun w20 H20 k20 hw20 => ⟨_, _, _, rfl, fun H22 d22 b23 H24 d24 b25 H26 d26 => ?_⟩
  rw [e2] at hw20
  have k26 := (((k16.call k20).call d22.keep).call d24.keep).call d26.keep
  have hw26 := (((hw16.keep k20).keep d22.keep).keep d24.keep).keep d26.keep
  have hm26 := ((hw20.keep d22.keep).keep d24.keep).keep d26.keep
  have a3 : Lists H26 (.slice b25 0 1 (some 1)) [[0, 1]] := d26.lists ⟨d24.ints [0, 1] rfl rfl, trivial⟩ rfl
  refine h3 a3 (k26.fl hfl) fun w30 H30 k30 hw30 => ⟨_, _, _, rfl, fun H32 d32 b33 H34 d34 b35 H36 d36 b37 H38 d38 => ?_⟩
  rw [e3] at hw30
  have k38 := ((((k26.call k30).call d32.keep).call d34.keep).call d36.keep).call d38.keep
  have hw38 := ((((hw26.keep k30).keep d32.keep).keep d34.keep).keep d36.keep).keep d38.keep
  have hm38 := ((((hm26.keep k30).keep d32.keep).keep d34.keep).keep d36.keep).keep d38.keep
  have hg38 := (((hw30.keep d32.keep).keep d34.keep).keep d36.keep).keep d38.keep
  have a4 : Lists H36 (.slice b35 0 1 (some 1)) [[1, 2]] := d36.lists ⟨d34.ints [1, 2] rfl rfl, trivial⟩ rfl
  refine h4 (a4.keep d38.keep) (d38.ints [0, 1, 2] rfl rfl) fun H42 k42 => ⟨_, _, _, rfl, fun H44 d44 => ?_⟩
  rw [e1, e2, e3, e4]
  have k44 := (k38.call k42).call d44.keep
  refine ⟨fun _ b45 H46 d46 => ?_, fun h => absurd ⟨⟨⟨⟨⟨rfl, rfl⟩, rfl⟩, rfl⟩, rfl⟩, rfl⟩ h⟩
  refine h5 (((hw38.keep k42).keep d44.keep).keep d46.keep) (d46.ints [4, 2, 3] rfl rfl) ⟨_, rfl, fun _ b50 H51 d51 => ?_, fun h => absurd (by decide) h⟩
  refine h5 ((((hm38.keep k42).keep d44.keep).keep d46.keep).keep d51.keep) (d51.ints [1, 2] rfl rfl) ⟨_, rfl, fun _ b55 H56 d56 => ?_, fun h => absurd (by decide) h⟩
  refine h5 (((((hg38.keep k42).keep d44.keep).keep d46.keep).keep d51.keep).keep d56.keep) (d56.ints [0, 2] rfl rfl) ⟨_, rfl, ?_⟩
  have := hq H56 (((k44.call d46.keep).call d51.keep).call d56.keep)
  simpa using this

/-- A law's leaf. -/
theorem leaf {b : Bool} {H : Heap} (h : b = true) : tru (.bool b) H := by rw [h]

theorem minimal_run {f n1 n2 n3 n4 : Nat} (hF : F f = some (rf_LBatchbisectMinimalIsMinimal n1 n2 n3 n4)) (h1 : MinimalC F n1) (h2 : ExampleC F n2) (h3 : FailsC F n3) (h4 : FWithoutC F n4) {fl : Nat} {H : Heap} {n : Int} {v : AV} {cs : List (List Int)} (hv : Lists H v cs) (hfl : fl ≤ H.length) : Ret F fl f [i64 n, v] H tru := by
  refine v_LBatchbisectMinimalIsMinimal hF _ _ ?_
  refine h1 hv hfl fun w H5 k5 hw => ⟨_, _, _, rfl, fun H7 d7 => ?_⟩
  have k7 := k5.call d7.keep
  refine h2 (k7.fl hfl) fun H9 k9 => ⟨_, rfl, fun h => absurd rfl h, fun _ => ⟨fun _ => rfl, fun hok => ?_⟩⟩
  have k9' := k7.call k9
  have hw9 := (hw.keep d7.keep).keep k9
  have hok : (minimalR n cs).2.1 = 0 := by simpa using hok
  obtain ⟨g1, g2, g3, g4⟩ := minimal_law hok
  have hf0 := (minimalR_ok hok).1
  have hsz : (minimalR n cs).1.length ≤ 2 ^ 30 := by
    have h16 := (fault_ok hf0).2.2.1
    -- a strictly increasing list of numbers below 16
    have : ∀ (l : List Int) (a : Int), l.Pairwise (· < ·) → (∀ x ∈ l, a < x ∧ x < n) → (l.length : Int) ≤ max 0 (n - a - 1) := by
      intro l
      induction l with
      | nil => intro a _ _; simp; omega
      | cons c l ih =>
        intro a hp hx
        rw [List.pairwise_cons] at hp
        have := ih c hp.2 fun x hx' => ⟨hp.1 x hx', (hx x (by simp [hx'])).2⟩
        have hc := hx c (by simp)
        simp only [List.length_cons]
        omega
    obtain ⟨p1, p2⟩ := setCode_ok.1 g1
    have := this _ (-1) p2 fun x hx => ⟨(p1 x hx).2.2, (p1 x hx).2.1⟩
    omega
  refine h3 (hv.keep k9') hw9 fun H14 k14 => ⟨_, _, _, rfl, fun H16 d16 => ?_⟩
  rw [failsR_of hf0 g1]
  have k16 := k14.call d16.keep
  refine ⟨fun m i H' => ∃ j : Nat, i = j ∧ j + m = (minimalR n cs).1.length ∧ Keep H9.length H9 H', _, ⟨0, rfl, Nat.zero_add _, k16⟩, ?_⟩
  rintro m _ H' ⟨j, rfl, hm, hk⟩
  refine ⟨_, (hw9.keep hk).len, fun hlt => ?_, fun hge => ⟨_, (hw9.keep hk).len, leaf ?_⟩⟩
  · have hjl : j < (minimalR n cs).1.length := by omega
    refine ⟨_, (hw9.keep hk).int hjl, h4 (hw9.keep hk) ((k9'.call hk).fl hfl) hsz fun u H31 k31 hu => h3 (hv.keep ((k9'.call hk).call k31)) (hu.arrP tInt.plain) fun H36 k36 => ⟨_, _, _, rfl, fun H38 d38 => ?_⟩⟩
    have e := failsR_of hf0 (setCode_filter (fun x => x != (minimalR n cs).1[j]) g1)
    rw [g4 _ (List.getElem_mem hjl)] at e
    rw [e]
    exact ⟨fun h => by simp at h, fun _ => ⟨m - 1, by omega, j + 1, wsucc hjl hw.small, by omega, ((hk.call k31).call k36).call d38.keep⟩⟩
  · simp [g2, g3]

theorem first_run {f n1 n2 n3 n4 : Nat} (hF : F f = some (rf_LBatchbisectFirstIsFast n1 n2 n3 n4)) (h1 : FirstC F n1) (h2 : ExampleC F n2) (h3 : FFirstC F n3) (h4 : FailsC F n4) {fl : Nat} {H : Heap} {n : Int} {v : AV} {cs : List (List Int)} (hv : Lists H v cs) (hfl : fl ≤ H.length) : Ret F fl f [i64 n, v] H tru := by
  refine v_LBatchbisectFirstIsFast hF _ _ ?_
  refine h1 hv hfl fun w H6 k6 hw => ⟨_, _, _, _, rfl, fun H8 d8 => ?_⟩
  have k8 := k6.call d8.keep
  refine h2 (k8.fl hfl) fun H10 k10 => ⟨_, rfl, fun h => absurd rfl h, fun _ => ⟨fun _ => rfl, fun hok => ?_⟩⟩
  have k10' := k8.call k10
  have hok : (firstR n cs).2.2.1 = 0 := by simpa using hok
  obtain ⟨g1, g2, g3, g4, g5, g6, g7, g8, g9, g10, g11⟩ := first_law hok
  refine ⟨fun h => by omega, fun _ => ?_⟩
  have e1 : IntKind.wrap .i64 ((firstR n cs).1 + 1) = (firstR n cs).1 + 1 := by rw [wrap64 (by omega) (by omega)]
  rw [e1]
  refine h3 (k10'.fl hfl) (by omega) fun u H13 k13 hu => h4 (hv.keep (k10'.call k13)) (hu.arrP tInt.plain) fun H18 k18 => ⟨_, _, _, rfl, fun H20 d20 => ?_⟩
  have k20 := ((k10'.call k13).call k18).call d20.keep
  refine h3 (k20.fl hfl) (by omega) fun u H22 k22 hu => h4 (hv.keep (k20.call k22)) (hu.arrP tInt.plain) fun H27 k27 => ⟨_, _, _, rfl, fun H29 d29 => ?_⟩
  have k29 := (k22.call k27).call d29.keep
  have hw29 := (((((hw.keep d8.keep).keep k10).keep k13).keep k18).keep d20.keep).keep k29
  refine ⟨_, hw29.len, _, hw29.len, leaf ?_⟩
  rw [failsR_of g10 g4, failsR_of g10 g6, g5, g7]
  simp only [Bool.and_eq_true, decide_eq_true_eq, beq_self_eq_true, Bool.not_false, true_and, and_true]
  omega

end Go.RM
