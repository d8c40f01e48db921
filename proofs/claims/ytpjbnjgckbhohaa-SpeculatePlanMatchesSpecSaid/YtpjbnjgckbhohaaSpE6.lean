import Derived.Test.YtpjbnjgckbhohaaRmEntry
/-
  speculate's law PlanMatchesSpec.
-/
namespace Go.RM
set_option linter.unusedSimpArgs false
set_option linter.unusedVariables false
namespace Sp
variable {F : Nat → Option RFunc}

theorem plan_zero {l : List Int} {budget : Int} (h : (planF l budget).1 = 0) : planF l budget = (0, 0) ∧ percE l = (0, 0) ∧ 0 ≤ budget ∧ budget ≤ 16 := by
  unfold planF at h ⊢
  split at h
  · rename_i hz
    split at h
    · simp at h
    · rename_i hb
      rw [if_pos hz, if_neg hb]
      exact ⟨rfl, hz, by omega, by omega⟩
  · rename_i hz
    exact absurd (perc_zero h) hz

theorem chP_pos {l : List Int} {p : Nat × Nat} (h : ∀ x ∈ l, 0 ≤ x ∧ x ≤ 100) : (chE l (runOf p) = 0 ↔ ¬ chE l (runOf p) > 0) := by
  have := (chP_in (r := runOf p) h l.length).1
  show chP _ _ _ = 0 ↔ ¬ chP _ _ _ > 0
  omega

theorem lPlan_c {f n1 n2 n3 n4 n5 n6 n7 n8 n9 : Nat} (hF : F f = some (rf_LSpeculatePlanMatchesSpec n1 n2 n3 n4 n5 n6 n7 n8 n9)) (h1 : ChanceC F n1) (h2 : PlanC F n2) (h3 : ExC F n3) (h4 : PercC F n4) (h5 : RunCodeC F n5) (h6 : FFaultC F n6) (h7 : FChC F n7) (h8 : RunOfC F n8) (h9 : BeforeC F n9)
    {fl : Nat} {H : Heap} {v w : AV} {l : List Int} {r : Run} {budget : Int} (hv : Ints H v l) (hw : Ints H w r.w) (hfl : fl ≤ H.length) : Ret F fl f [v, .agg (runC w r), i64 budget] H tru := by
  refine v_LSpeculatePlanMatchesSpec hF _ _ _ _ ?_
  intro H4 d4
  have k4 := d4.keep
  refine h1 (hv.keep k4) (hw.keep k4) fun H8 k8' => ⟨_, _, _, rfl, ?_⟩
  have k8 := k4.call k8'
  intro H10 d10
  have k10 := k8.call d10.keep
  refine h2 (hv.keep k10) (k10.fl hfl) fun r11 H14 L k14' hL hP => ⟨_, _, _, rfl, ?_⟩
  have k14 := k10.call k14'
  intro H16 d16
  have k16 := k14.call d16.keep
  refine h3 (k16.fl hfl) fun H18 k18' => ⟨_, rfl, fun h => absurd rfl h, fun _ => ?_⟩
  have k18 := k16.call k18'
  refine h4 (hv.keep k18) fun H22 k22' => ⟨_, _, rfl, ?_⟩
  have k22 := k18.call k22'
  intro H24 d24 H25 d25
  have k25 := (k22.call d24.keep).call d25.keep
  have kL : Keep H14.length H14 H25 := (((d16.keep.call k18').call k22').call d24.keep).call d25.keep
  have hL25 := hL.keep kL
  -- the fault of Chance
  refine ⟨fun a b H' => (a, b) = (chanceE l r).2 ∧ Keep H25.length H25 H', ⟨_, (hv.keep k25).len, fun hz => ?_, fun hz => ?_⟩, ?_⟩
  · have hz' := perc_zero hz
    have e : chanceE l r = if runE l.length r ≠ 0 then (0, (runE l.length r, -2)) else (chE l r, (0, 0)) := by unfold chanceE; rw [if_pos hz']
    refine h5 (hw.keep k25) fun H33 k33 => ⟨_, rfl, fun hc => ?_, fun hc => ?_⟩
    · have k33' := k25.call k33
      refine ⟨_, (hv.keep k33').len, h5 (hw.keep k33') fun H37 k37 => ⟨_, rfl, h6 fun H41 k41 => ⟨_, _, rfl, ?_, (k33.call k37).call k41⟩⟩⟩
      rw [e, if_pos hc]
    · refine ⟨?_, k33⟩
      rw [e, if_neg hc, hz']
  · refine ⟨?_, Keep.refl _⟩
    unfold chanceE
    rw [if_neg fun e => hz (by rw [e])]
  rintro v27 v28 H30 ⟨e27, k30⟩
  have k30' := k25.call k30
  -- the fault of Plan
  refine ⟨fun a b H' => (a, b) = planF l budget ∧ Keep H25.length H25 H', ⟨fun hb => ?_, fun hb => ?_⟩, ?_⟩
  · have hz' := perc_zero hb.1
    refine h6 fun H50 k50 => ⟨_, _, rfl, ?_, k30.call k50⟩
    unfold planF
    rw [if_pos hz', if_pos hb.2]
  · refine ⟨?_, k30⟩
    unfold planF
    split
    · rename_i hz
      rw [if_neg fun h => hb ⟨by rw [hz], h⟩, hz]
    · rfl
  rintro w44 w45 H47 ⟨e44, k47⟩
  have k47' := k25.call k47
  -- Chance is as it must be
  refine ⟨fun H' => Keep H25.length H25 H', ⟨fun hne => ⟨fun hx => ?_, fun _ => ⟨fun hx => ?_, fun _ => ⟨fun h => absurd h hne, fun _ => k47⟩⟩⟩, fun h0 => ⟨fun _ => ?_, fun h => absurd (Classical.not_not.1 h0) h⟩⟩, ?_⟩
  · rw [← e27] at hx
    exact absurd ⟨rfl, rfl, trivial⟩ hx
  · -- no chance where there is a fault
    exfalso
    have : (chanceE l r).1 = 0 := by
      unfold chanceE at e27 ⊢
      split
      · rename_i hz
        rw [if_pos hz] at e27
        split
        · rfl
        · rename_i hc
          rw [if_neg hc] at e27
          simp only [Prod.mk.injEq] at e27
          exact absurd e27.1 hne
      · rfl
    exact hx this
  · have h0 := Classical.not_not.1 h0
    have hc2 : (chanceE l r).2 = (0, 0) ∧ percE l = (0, 0) ∧ (chanceE l r).1 = chE l r := by
      unfold chanceE at e27 ⊢
      split
      · rename_i hz
        rw [if_pos hz] at e27
        split
        · rename_i hc
          rw [if_pos hc] at e27
          simp only [Prod.mk.injEq] at e27
          exact absurd (e27.1.symm.trans h0) hc
        · exact ⟨rfl, hz, rfl⟩
      · rename_i hz
        rw [if_neg hz] at e27
        replace e27 : (v27, v28) = percE l := e27
        have : (percE l).1 = 0 := by rw [← e27]; exact h0
        exact absurd (perc_zero this) hz
    obtain ⟨x1, x2, x3⟩ := hc2
    obtain ⟨l8, pin⟩ := perc_in x2
    refine ⟨fun h => absurd (by rw [x1]) h, fun _ => ?_⟩
    refine h7 l.length rfl (hv.keep k47') (hw.keep k47') pin l8 fun H57 k57 => ⟨_, rfl, fun h => absurd x3 h, fun _ => k47.call k57⟩
  intro H55 k55
  have k55' := k25.call k55
  have hL55 := hL25.keep k55
  unfold PlanIs at hP
  refine ⟨fun hne => ?_, fun h0 => ?_⟩
  · have hpf : planF l budget ≠ (0, 0) := fun e => hne (by rw [e] at e44; simp only [Prod.mk.injEq] at e44; exact e44.1)
    rw [if_neg hpf] at hP
    subst hP
    refine ⟨_, hL55.len, leafT ?_⟩
    rw [← e44]
    simp
  · have hpz := plan_zero (l := l) (budget := budget) (by rw [← e44]; exact Classical.not_not.1 h0)
    obtain ⟨hpf, hz, b0, b16⟩ := hpz
    obtain ⟨l8, pin⟩ := perc_in hz
    rw [if_pos hpf] at hP
    obtain ⟨C, hC, hlex, rfl⟩ := hP
    have hCl : C.length = (allL l l.length).length := by rw [hC.length_eq, List.length_range]
    have hCm : ∀ x ∈ C, x < (allL l l.length).length := fun x hx => List.mem_range.1 (hC.mem_iff.1 hx)
    have hLl : ((C.take budget.toNat).map (runAt l)).length = min budget.toNat C.length := by rw [List.length_map, List.length_take]
    have hLg : ∀ i, (h : i < ((C.take budget.toNat).map (runAt l)).length) → ∃ hi : i < C.length, ((C.take budget.toNat).map (runAt l))[i] = runAt l C[i] := fun i h => by
      rw [hLl] at h
      refine ⟨by omega, ?_⟩
      rw [List.getElem_map, List.getElem_take]
    have hNb : (allL l l.length).length ≤ 2 ^ 8 := by
      have := allL_len (l := l) (n := l.length)
      have p9 : 2 ^ l.length ≤ 2 ^ 8 := Nat.pow_le_pow_right (by decide) l8
      generalize 2 ^ l.length = z at this p9
      omega
    generalize hLd : (C.take budget.toNat).map (runAt l) = L at hL55 hLl hLg
    refine ⟨_, hL55.len, fun hx => ?_, fun _ => ?_⟩
    · rcases hx with hx | hx
      · exact absurd (by rw [hpf]) hx
      · omega
    -- a run of the plan, by its place
    have hat : ∀ i, (h : i < L.length) → ∃ p : Nat × Nat, p ∈ allL l l.length ∧ L[i] = runOf p ∧ okP p := fun i h => by
      obtain ⟨hi, e⟩ := hLg i h
      have hci := hCm _ (List.getElem_mem hi)
      have hm := List.getElem_mem hci
      obtain ⟨m1, m2, _⟩ := all_mem hm
      exact ⟨_, hm, by rw [e, runAt_lt hci], by unfold okP; exact ⟨by omega, m2⟩⟩
    -- the last one of the plan
    let z : Nat × Nat := (allL l l.length).getD (C.getD (L.length - 1) 0) (0, 0)
    have hz0 : 0 < L.length → L.getD (L.length - 1) default = runOf z ∧ okP z := fun hpos => by
      obtain ⟨hi, e⟩ := hLg (L.length - 1) (by omega)
      have hci := hCm _ (List.getElem_mem hi)
      have hm := List.getElem_mem hci
      obtain ⟨m1, m2, _⟩ := all_mem hm
      have ez : z = (allL l l.length)[C[L.length - 1]] := by
        show (allL l l.length).getD (C.getD (L.length - 1) 0) (0, 0) = _
        rw [getD_get hi, getD_get hci]
      rw [ez]
      exact ⟨by rw [getD_get (show L.length - 1 < L.length by omega), e, runAt_lt hci], by unfold okP; exact ⟨by omega, m2⟩⟩
    have hbetter : 0 < L.length → ((allL l l.length).filter fun p => befP l p z).length = L.length - 1 := fun hpos => by
      obtain ⟨hi, _⟩ := hLg (L.length - 1) (by omega)
      have := better_count hC hlex hi
      show ((allL l l.length).filter fun p => befP l p ((allL l l.length).getD (C.getD (L.length - 1) 0) (0, 0))).length = _
      rw [getD_get hi]; exact this
    -- counting
    let cnt : List (Nat × Nat) → Int := fun X => if L.length = 0 then 0 else ((X.filter fun p => befP l p z).length : Nat)
    refine ⟨fun m i po be H' => ∃ j : Nat, i = j ∧ j + m = l.length ∧ po = ((allL l j).length : Nat) ∧ be = cnt (allL l j) ∧ Keep H55.length H55 H', l.length, ⟨0, rfl, by omega, rfl, by show (0 : Int) = cnt []; simp [cnt], Keep.refl _⟩, ?_⟩
    rintro m _ _ _ H76 ⟨j, rfl, hm, rfl, rfl, k76⟩
    have k76' := k55'.call k76
    refine ⟨_, (hv.keep k76').len, fun hlt => ?_, fun hge => ?_⟩
    · have hj : j < l.length := by omega
      have p9 : 2 ^ j ≤ 2 ^ 8 := Nat.pow_le_pow_right (by decide) (by omega)
      have hal := allL_len (l := l) (n := j)
      refine ⟨fun m i po be H' => ∃ q : Nat, i = q ∧ q + m = 2 ^ j ∧ po = ((allL l j ++ itemsL l j q).length : Nat) ∧ be = cnt (allL l j ++ itemsL l j q) ∧ Keep H55.length H55 H', 2 ^ j, ⟨0, rfl, by omega, by simp [itemsL], by simp [itemsL], k76⟩, ?_⟩
      rintro m2 _ _ _ H88 ⟨q, rfl, hm2, rfl, rfl, k88⟩
      have k88' := k55'.call k88
      rw [shl1 (by omega)]
      refine ⟨by omega, fun hlt2 => ?_, fun hge2 => ?_⟩
      · have hq : q < 2 ^ j := by generalize 2 ^ j = y at hlt2 hm2; omega
        have hit := itemsL_len (l := l) (last := j) (s := q)
        have hwq := wsucc (i := q) (n := 2 ^ j) hq (by generalize 2 ^ j = y at p9; omega)
        have hsu := itemsL_succ (l := l) (last := j) (s := q)
        have hopq : okP (j, q) := ⟨by simp only; omega, hq⟩
        have hlen1 : (allL l j ++ itemsL l j q).length ≤ 2 ^ 10 := by
          rw [List.length_append]
          generalize 2 ^ j = y at hal hq p9
          omega
        have hcn : ∀ X : List (Nat × Nat), X.length ≤ 2 ^ 11 → 0 ≤ cnt X ∧ cnt X ≤ 2 ^ 11 := fun X hX => by
          show 0 ≤ (if L.length = 0 then (0 : Int) else _) ∧ (if L.length = 0 then (0 : Int) else _) ≤ 2 ^ 11
          have := List.length_filter_le (fun p => befP l p z) X
          split <;> omega
        refine h8 (last := j) (w := q) (k88'.fl hfl) (by omega) (by generalize 2 ^ j = y at hq p9; omega) fun u H91 k91 hu => ⟨_, _, rfl, ?_⟩
        intro H93 d93
        have k93 := k91.call d93.keep
        have hu93 := hu.keep d93.keep
        refine ⟨hu.scal, ?_⟩
        refine h7 l.length (r := runOf (j, q)) rfl (hv.keep (k88'.call k93)) hu93 pin l8 fun H96 k96' => ⟨_, rfl, fun hzero => ?_, fun hnz => ?_⟩
        · have hnp := (chP_pos (p := (j, q)) pin).1 hzero
          rw [if_neg hnp] at hsu
          exact ⟨m2 - 1, by omega, q + 1, hwq, by omega, by rw [hsu], by rw [hsu], (k88.call k93).call k96'⟩
        · have hnp : chE l (runOf (j, q)) > 0 := Classical.byContradiction fun h => hnz ((chP_pos (p := (j, q)) pin).2 h)
          rw [if_pos hnp] at hsu
          have k96 := (k88.call k93).call k96'
          have k96t := k55'.call k96
          have hL96 := hL55.keep k96
          have hpo : IntKind.wrap .i64 (((allL l j ++ itemsL l j q).length : Nat) + 1 : Int) = ((allL l j ++ itemsL l j (q + 1)).length : Nat) := by
            rw [wrap64 (by omega) (by omega), hsu, ← List.append_assoc, @List.length_append _ (allL l j ++ itemsL l j q) _]; simp
          have hce : cnt (allL l j ++ itemsL l j (q + 1)) = cnt (allL l j ++ itemsL l j q) + if L.length = 0 then 0 else if befP l (j, q) z = true then 1 else 0 := by
            show (if L.length = 0 then (0 : Int) else _) = (if L.length = 0 then (0 : Int) else _) + _
            rw [hsu, ← List.append_assoc, List.filter_append, List.length_append]
            by_cases e0 : L.length = 0
            · simp only [e0, if_true]; rfl
            · simp only [e0, if_false]
              by_cases eb : befP l (j, q) z = true
              · simp [List.filter_cons, eb]
              · simp [List.filter_cons, eb]
          refine ⟨_, hL96.len, _, hL96.len, fun hpos => ?_, fun hz2 => ?_⟩
          · have hLp : 0 < L.length := by omega
            rw [wrap64 (by omega) (by omega), show (L.length : Int) - 1 = ((L.length - 1 : Nat) : Int) by omega]
            obtain ⟨wz, g1, g2⟩ := run_get hL96 (i := L.length - 1) (by omega)
            obtain ⟨ez, oz⟩ := hz0 hLp
            have ez' : L[L.length - 1]'(by omega) = runOf z := by rw [← ez, getD_get (show L.length - 1 < L.length by omega)]
            rw [ez'] at g1 g2
            refine ⟨_, _, g1, ?_⟩
            refine h9 (p := (j, q)) (q := z) (hv.keep k96t) (hu93.keep k96') g2 pin l8 hopq oz fun H105 k105 => ⟨_, rfl, fun ht => ?_, fun hf => ?_⟩
            · rw [if_neg (by omega), if_pos ht] at hce
              have := hcn (allL l j ++ itemsL l j q) (by omega)
              exact ⟨m2 - 1, by omega, q + 1, hwq, by omega, hpo, by rw [wrap64 (by omega) (by omega), hce], k96.call k105⟩
            · rw [if_neg (by omega), if_neg hf, Int.add_zero] at hce
              exact ⟨m2 - 1, by omega, q + 1, hwq, by omega, hpo, by rw [hce], k96.call k105⟩
          · rw [if_pos (by omega), Int.add_zero] at hce
            exact ⟨m2 - 1, by omega, q + 1, hwq, by omega, hpo, by rw [hce], k96⟩
      · have : q = 2 ^ j := by generalize 2 ^ j = y at hge2 hm2 ⊢; omega
        subst this
        exact ⟨m - 1, by omega, j + 1, wsucc hj hv.small, by omega, rfl, rfl, k88⟩
    · have : j = l.length := by omega
      subst this
      refine ⟨fun m i H' => ∃ t : Nat, i = t ∧ t + m = L.length ∧ Keep H55.length H55 H', L.length, ⟨0, rfl, by omega, k76⟩, ?_⟩
      rintro m2 _ H118 ⟨t, rfl, hm2, k118⟩
      have k118' := k55'.call k118
      have hL118 := hL55.keep k118
      refine ⟨_, hL118.len, fun hlt => ?_, fun hge2 => ?_⟩
      · have ht : t < L.length := by omega
        obtain ⟨p, pm, pe, po⟩ := hat t ht
        obtain ⟨a1, a2, a3⟩ := all_mem pm
        obtain ⟨wt, g1, g2⟩ := run_get hL118 ht
        rw [pe] at g1 g2
        refine ⟨_, (hv.keep k118').len, _, _, g1, ?_⟩
        refine h5 (r := runOf p) g2 fun H125 k125' => ⟨_, rfl, fun hc => ?_, fun _ => ?_⟩
        · exact absurd (runE_bits (n := (l.length : Int)) (w := p.2) (last := p.1) (by omega)) hc
        · have k125 := k118.call k125'
          have hL125 := hL55.keep k125
          obtain ⟨wt2, g3, g4⟩ := run_get hL125 ht
          rw [pe] at g3 g4
          refine ⟨_, _, g3, ?_⟩
          refine h7 l.length (r := runOf p) rfl (hv.keep (k55'.call k125)) g4 pin l8 fun H131 k131' => ⟨_, rfl, fun hzero => ?_, fun _ => ?_⟩
          · have : chE l (runOf p) = 0 := hzero
            omega
          · have k131 := k125.call k131'
            have hL131 := hL55.keep k131
            have nx : ∀ H', Keep H55.length H55 H' → ∃ m', m' < m2 ∧ ∃ t' : Nat, IntKind.wrap .i64 ((t : Int) + 1) = t' ∧ t' + m' = L.length ∧ Keep H55.length H55 H' := fun H' k => ⟨m2 - 1, by omega, t + 1, wsucc ht (by omega), by omega, k⟩
            refine ⟨fun hpos => ?_, fun _ => nx H131 k131⟩
            have ht1 : t - 1 < L.length := by omega
            rw [wrap64 (by omega) (by omega), show (t : Int) - 1 = ((t - 1 : Nat) : Int) by omega]
            obtain ⟨p', pm', pe', po'⟩ := hat (t - 1) ht1
            obtain ⟨w1, g5, g6⟩ := run_get hL131 ht1
            rw [pe'] at g5 g6
            obtain ⟨w2, g7, g8⟩ := run_get hL131 ht
            rw [pe] at g7 g8
            refine ⟨_, _, g5, _, _, g7, ?_⟩
            obtain ⟨i1, e1⟩ := hLg (t - 1) ht1
            obtain ⟨i2, e2⟩ := hLg t ht
            have c1 := hCm _ (List.getElem_mem i1)
            have c2 := hCm _ (List.getElem_mem i2)
            have hl := List.pairwise_iff_getElem.1 hlex (t - 1) t i1 i2 (by omega)
            have hbef : befP l (allL l l.length)[C[t - 1]] (allL l l.length)[C[t]] = true := (bef_lex c1 c2).2 hl
            have q1 : runOf p' = runOf (allL l l.length)[C[t - 1]] := by rw [← pe', e1, runAt_lt c1]
            have q2 : runOf p = runOf (allL l l.length)[C[t]] := by rw [← pe, e2, runAt_lt c2]
            have ok1 : okP (allL l l.length)[C[t - 1]] := by
              obtain ⟨m1, m2, _⟩ := all_mem (List.getElem_mem c1)
              unfold okP; exact ⟨by omega, m2⟩
            have ok2 : okP (allL l l.length)[C[t]] := by
              obtain ⟨m1, m2, _⟩ := all_mem (List.getElem_mem c2)
              unfold okP; exact ⟨by omega, m2⟩
            rw [q1] at g6 ⊢
            rw [q2] at g8 ⊢
            refine h9 (hv.keep (k55'.call k131)) g6 g8 pin l8 ok1 ok2 fun H140 k140 => ⟨_, rfl, fun h => absurd hbef h, fun _ => nx H140 (k131.call k140)⟩
      · refine ⟨_, hL118.len, _, hL118.len, _, hL118.len, leafT ?_⟩
        have hmin : (L.length : Int) = imin budget ((allL l l.length).length : Nat) := by rw [imin_eq]; omega
        rw [← hmin, beq_self_eq_true, Bool.true_and]
        rcases Nat.eq_zero_or_pos L.length with e0 | e0
        · rw [e0]; rfl
        · have : cnt (allL l l.length) = ((L.length - 1 : Nat) : Int) := by
            show (if L.length = 0 then (0 : Int) else _) = _
            rw [if_neg (by omega), hbetter e0]
          rw [this, wrap64 (by omega) (by omega), show (L.length : Int) - 1 = ((L.length - 1 : Nat) : Int) by omega, beq_self_eq_true, Bool.or_true]

end Sp
end Go.RM

