import Derived.Test.YtpjbnjgckbhohaaSpC3
import Derived.Test.YtpjbnjgckbhohaaRmWp
/-
  speculate: Plan as a contract.
-/
namespace Go.RM
set_option linter.unusedSimpArgs false
set_option linter.unusedVariables false
namespace Sp
variable {F : Nat → Option RFunc}

def planF (l : List Int) (budget : Int) : Int × Int := if percE l = (0, 0) then (if budget < 0 ∨ budget > 16 then (3, -2) else (0, 0)) else percE l
def runAt (l : List Int) (x : Nat) : Run := runOf ((allL l l.length).getD x (0, 0))
def keyA (l : List Int) (x : Nat) : Int := - chE l (runAt l x)
/-- The runs that are planned. -/
def PlanIs (l : List Int) (budget : Int) (L : List Run) : Prop :=
  if planF l budget = (0, 0) then ∃ C : List Nat, C.Perm (List.range (allL l l.length).length) ∧ C.Pairwise (Lex (keyA l)) ∧ L = (C.take budget.toNat).map (runAt l) else L = []

abbrev PlanC (F : Nat → Option RFunc) (f : Nat) : Prop := ∀ {fl H Q v} {l : List Int} {budget : Int}, Ints H v l → fl ≤ H.length →
  (∀ w H' L, Keep H.length H H' → Arr tRun H' w L → PlanIs l budget L → Q (.tuple [w, fp (planF l budget)]) H') → Ret F fl f [v, i64 budget] H Q

theorem plan_c {f n1 n2 n3 n4 n5 : Nat} (hF : F f = some (rf_speculate_Plan n1 n2 n3 n4)) (h1 : PercC F n1) (h2 : ChC F n2) (h3 : StabG F n3) (h4 : F n4 = some (rf_speculate_Planx1 n5)) (h5 : CmpC F n5) : PlanC F f := fun {fl H Q v l budget} hv hfl hq => by
  refine v_speculate_Plan hF _ _ ?_
  intro H2 d2
  have k2 := d2.keep
  refine h1 (hv.keep k2) fun H5 k5' => ⟨_, _, rfl, ?_⟩
  have k5 := k2.call k5'
  intro H7 d7
  have k7 := k5.call d7.keep
  unfold PlanIs planF at hq
  refine ⟨fun hn => ?_, fun hn => ⟨fun hb => ?_, fun hb => ?_⟩⟩
  · have : percE l ≠ (0, 0) := fun e => hn ⟨by rw [e], by rw [e], trivial⟩
    simp only [if_neg this] at hq
    exact hq _ H7 [] k7 Arr.nil rfl
  · obtain ⟨z1, z2, _⟩ := Classical.not_not.1 hn
    have hz : percE l = (0, 0) := Prod.ext z1 z2
    simp only [if_pos hz, if_pos hb] at hq
    exact hq _ H7 [] k7 Arr.nil (by rw [if_neg (by decide)])
  · obtain ⟨z1, z2, _⟩ := Classical.not_not.1 hn
    have hz : percE l = (0, 0) := Prod.ext z1 z2
    simp only [if_pos hz, if_neg hb, if_true] at hq
    obtain ⟨l8, pin⟩ := perc_in hz
    have v7 := hv.keep k7
    have h7 := k7.len
    refine ⟨_, v7.len, ?_⟩
    refine ⟨fun m i av H' => ∃ (j : Nat) (own : Nat → Bool) (xs : List (AV × (Nat × Nat))), i = j ∧ j + m = l.length ∧ Keep H7.length H7 H' ∧ PL l H7.length own H' av xs ∧ xs.map (·.2) = allL l j, l.length,
      ⟨0, fun _ => true, [], rfl, by omega, Keep.refl _, ⟨Own.nil, fun x hx => by simp at hx, fun b hb => absurd hb at_empty, fun x hx => by simp at hx⟩, rfl⟩, ?_⟩
    rintro m _ av H28 ⟨j, own, xs, rfl, hm, k28, pl, hxs⟩
    refine ⟨fun hlt => ?_, fun hge => ?_⟩
    · -- the runs of a change
      have hj : j < l.length := by omega
      have p9 : 2 ^ j ≤ 2 ^ 8 := Nat.pow_le_pow_right (by decide) (by omega)
      rw [shl1 (by omega)]
      refine ⟨by omega, fun m s av H' => ∃ (q : Nat) (own : Nat → Bool) (xs : List (AV × (Nat × Nat))), s = q ∧ q + m = 2 ^ j ∧ Keep H7.length H7 H' ∧ PL l H7.length own H' av xs ∧ xs.map (·.2) = allL l j ++ itemsL l j q, 2 ^ j, ⟨0, own, xs, rfl, by omega, k28, pl, by rw [hxs]; simp [itemsL]⟩, ?_⟩
      rintro m2 _ av2 H44 ⟨q, own2, xs2, rfl, hm2, k44, pl2, hxs2⟩
      refine ⟨fun hlt2 => ?_, fun hge2 => ?_⟩
      · have hq2 : q < 2 ^ j := by
          generalize 2 ^ j = z at hlt2 hm2; omega
        intro H45 d45
        refine ⟨fun m i r w H' => ∃ t : Nat, i = t ∧ t + m = j ∧ r = j ∧ Keep H44.length H44 H' ∧ Acc H44 tInt H' w (bitsL q t), j, ⟨0, rfl, by omega, rfl, d45.keep, Acc.nil⟩, ?_⟩
        rintro m3 _ _ w H55 ⟨t, rfl, hm3, rfl, k55, hw⟩
        have k55' := k44.call k55
        refine ⟨fun hlt3 => ?_, fun hge3 => ?_⟩
        · have ht : t < j := by omega
          have hwi := wsucc (i := t) (n := j) ht (by omega)
          have hbs := bitsL_succ (w := q) (n := t)
          rw [bit_and (by omega) (by generalize 2 ^ j = z at hq2 p9; omega), hwi]
          refine ⟨by omega, fun hb1 => ?_, fun hb1 => ⟨m3 - 1, by omega, t + 1, rfl, by omega, rfl, k55, ?_⟩⟩
          · intro b56 H57 n57
            obtain ⟨a, H59, q1, q2, q3, _⟩ := hw.push (fl := fl) (free := true) (bytes := 8) (a := (t : Int)) rfl n57 k55 (Nat.le_trans (k7.fl hfl) k44.len) (by have := bitsL_len (w := q) (n := t); omega) (by omega)
            refine ⟨a, H59, q1, q2.scal, m3 - 1, by omega, t + 1, rfl, by omega, rfl, q3, ?_⟩
            rw [hbs, if_pos (by omega)]; exact q2
          · rw [hbs, if_neg (by omega)]; exact hw
        · have : t = j := by omega
          subst this
          have hok := bitsL_ok (w := q) (n := t)
          have hwI : Ints H55 w (runOf (t, q)).w := hw.arr k55
          refine h2 (r := runOf (t, q)) (v7.keep k55') hwI hz hok.1 hok.2 fun H64 k64 => ⟨_, rfl, fun hpos => ?_, fun hpos => ?_⟩
          · intro b66 H67 n67
            have hlx : xs2.length ≤ 2 ^ 20 := by
              have := congrArg List.length hxs2
              rw [List.length_map, List.length_append] at this
              have a1 := allL_len (l := l) (n := t)
              have a2 := itemsL_len (l := l) (last := t) (s := q)
              generalize 2 ^ t = z at a1 p9 hq2
              omega
            have k64' := k55.call k64
            have hwg : Gr H44.length H64 1 w (runOf (t, q)).w.length (ints (runOf (t, q)).w) := (acc_gr hw).keep k64
            obtain ⟨a, H69, q1, q2, q3, own', q4⟩ := pl2.push (H0 := H44) (H := H64) (p := (t, q)) (fl := fl) k64' (.inr hwg) (Nat.le_trans k55.len k64.len) k44.len (k7.fl hfl) n67 hlx
            refine ⟨a, H69, q1, m2 - 1, by omega, q + 1, own', xs2 ++ [(w, (t, q))], wsucc (i := q) (n := 2 ^ t) hq2 (by generalize 2 ^ t = z at p9; omega), by omega, ?_, q4, ?_⟩
            · have k67 := (k44.call k64').call n67.keep
              refine ⟨Nat.le_refl _, Nat.le_trans k67.len q2, fun x hx => ?_⟩
              rw [q3 x (Nat.lt_of_lt_of_le hx k67.len) fun ha => by have := (pl2.all.at_lt ha).1; omega, k67.get x hx]
            · rw [List.map_append, hxs2, itemsL_succ, if_pos hpos, List.append_assoc]; rfl
          · refine ⟨m2 - 1, by omega, q + 1, own2, xs2, wsucc (i := q) (n := 2 ^ t) hq2 (by generalize 2 ^ t = z at p9; omega), by omega, (k44.call k55).call k64, (pl2.keep k55).keep k64, ?_⟩
            rw [hxs2, itemsL_succ, if_neg hpos]
      · have : q = 2 ^ j := by generalize 2 ^ j = z at hge2 hm2 ⊢; omega
        subst this
        exact ⟨m - 1, by omega, j + 1, own2, xs2, wsucc hj hv.small, by omega, k44, pl2, by rw [hxs2, allL]⟩
    · have : j = l.length := by omega
      subst this
      -- the list is sorted
      have hN : xs.length = (allL l l.length).length := by rw [← hxs, List.length_map]
      have hN2 : xs.length ≤ 2 ^ 8 := by
        have := allL_len (l := l) (n := l.length)
        have p9 : 2 ^ l.length ≤ 2 ^ 8 := Nat.pow_le_pow_right (by decide) l8
        generalize 2 ^ l.length = z at this p9
        omega
      have hVs : ∀ x : Nat, Scal ((xs.getD x (.empty, (0, 0))).1) := fun x => by
        rcases Nat.lt_or_ge x xs.length with h | h
        · rw [getD_get h]; exact (pl.ws _ (List.getElem_mem h)).sl.scal
        · rw [List.getD_eq_getElem?_getD, List.getElem?_eq_none h]; exact ⟨rfl, rfl⟩
      let E : Enc := ⟨fun x => ((xs.getD x (.empty, (0, 0))).2.1 : Int), fun x => (xs.getD x (.empty, (0, 0))).1, fun x => chE l (runOf (xs.getD x (.empty, (0, 0))).2), hVs⟩
      have hcells : (List.range xs.length).map E.c = xs.map (cellP l) := by
        apply List.ext_getElem
        · simp
        · intro i hi1 hi2
          simp only [List.length_map, List.length_range] at hi1
          simp only [List.getElem_map, List.getElem_range]
          show [i64 _, _, i64 _] = [i64 _, _, i64 _]
          simp only [E, getD_get hi1]
      have hrl : (List.range xs.length).length = xs.length := List.length_range
      have ss0 : SS H7.length H28 av E H28 (List.range xs.length) := ⟨by rw [hrl, hcells]; exact pl.all, k28.len, Nat.le_refl _, fun _ _ _ => rfl⟩
      have hat : ∀ x : Nat, (xs.getD x (.empty, (0, 0))).2 = (allL l l.length).getD x (0, 0) := fun x => by
        rw [← hxs, List.getD_eq_getElem?_getD, List.getD_eq_getElem?_getD, List.getElem?_map]
        cases xs[x]? <;> rfl
      have hkey : (fun x => - E.fC x) = keyA l := by
        funext x
        show - chE l (runOf (xs.getD x (.empty, (0, 0))).2) = _
        rw [hat]; rfl
      refine h3 (key := fun x => - E.fC x) ss0 (k7.fl hfl) (planx_g h4 h5 E) List.pairwise_lt_range (by rw [hrl]; omega) fun H73 C s73 hperm hlex => ⟨rfl, ?_⟩
      rw [hkey] at hlex
      have hCl : C.length = xs.length := by rw [hperm.length_eq, hrl]
      have hCm : ∀ x ∈ C, x < xs.length := fun x hx => List.mem_range.1 (hperm.mem_iff.1 hx)
      have k73 : Keep H7.length H7 H73 := ⟨Nat.le_refl _, Nat.le_trans k28.len s73.len, fun x hx => by
        rw [s73.fr x (Nat.lt_of_lt_of_le hx k28.len) fun ha => by have := (pl.all.at_lt ha).1; omega, k28.get x hx]⟩
      have hrel : ∀ x ∈ C, Ints H73 (E.fV x) (runAt l x).w := fun x hx => by
        have hxl := hCm x hx
        have hm := List.getElem_mem hxl
        have hg := pl.ws _ hm
        have hg2 := hg.frame (H' := H73) fun b hb => s73.fr b (hg.at_lt hb).2 fun ha => by
          have e1 := pl.oA b ha
          rw [pl.oW _ hm b hb] at e1; cases e1
        have e1 : E.fV x = xs[x].1 := by show (xs.getD x _).1 = _; rw [getD_get hxl]
        have e2 : runAt l x = runOf xs[x].2 := by unfold runAt; rw [← hat, getD_get hxl]
        rw [e1, e2]
        exact gr_ints hg2
      have harr : Arr (tEnc 3 E.c (by decide) (fun _ => rfl) E.scal) H73 av C := by
        refine ⟨⟨C.map E.c, ?_, s73.own.sl⟩⟩
        have : ∀ D : List Nat, All2 ((tEnc 3 E.c (by decide) (fun _ => rfl) E.scal).rel H73) (D.map E.c) D := by
          intro D
          induction D with
          | nil => trivial
          | cons x D ih => exact ⟨rfl, ih⟩
        exact this C
      have hbud : 0 ≤ budget ∧ budget ≤ 16 := by omega
      refine ⟨C.length, harr.len, ?_⟩
      have himin : imin budget (C.length : Int) = ((min budget.toNat C.length : Nat) : Int) := by rw [imin_eq]; omega
      rw [himin]
      obtain ⟨s76, u1, u2⟩ := harr.upto (n := min budget.toNat C.length) (by omega)
      have htk : C.take (min budget.toNat C.length) = C.take budget.toNat := by
        rcases Nat.le_total budget.toNat C.length with h | h
        · rw [Nat.min_eq_left h]
        · rw [Nat.min_eq_right h, List.take_of_length_le (Nat.le_refl _), List.take_of_length_le h]
      rw [htk] at u2
      refine ⟨s76, u1, _, u2.len, ?_⟩
      have hDm : ∀ x ∈ C.take budget.toNat, x ∈ C := fun x hx => List.mem_of_mem_take hx
      have hDl : (C.take budget.toNat).length ≤ 2 ^ 8 := by rw [List.length_take]; omega
      have hfin := hq
      generalize hD : C.take budget.toNat = D at u2 hDm hDl
      refine ⟨fun m i o H' => ∃ t : Nat, i = t ∧ t + m = D.length ∧ Keep H73.length H73 H' ∧ Acc H73 tRun H' o ((D.take t).map (runAt l)), D.length, ⟨0, rfl, by omega, Keep.refl _, Acc.nil⟩, ?_⟩
      rintro m2 _ o H85 ⟨t, rfl, hm2, k85, ho⟩
      refine ⟨fun hlt => ?_, fun hge2 => ?_⟩
      · have ht : t < D.length := by omega
        have hget : getA H85 3 (some 3) s76 (t : Int) 0 = some (.agg (E.c D[t])) := Arr.enc (u2.keep k85) ht
        refine ⟨_, _, _, hget, ?_⟩
        intro H90 d90
        have k90 := k85.call d90.keep
        refine ⟨E.hV _, ?_⟩
        intro b92 H93 n93
        have hx := hDm _ (List.getElem_mem ht)
        have hxl := hCm _ hx
        have hrun : tRun.rel H73 [i64 (E.fL D[t]), E.fV D[t]] (runAt l D[t]) := ⟨E.fV D[t], by
          have : E.fL D[t] = (runAt l D[t]).last := by
            show ((xs.getD _ _).2.1 : Int) = _
            rw [hat]; rfl
          rw [this], hrel _ hx⟩
        obtain ⟨a94, H95, q1, q2, q3, _⟩ := (ho.keep d90.keep).push (fl := fl) (free := true) (bytes := 32) (T := tRun) hrun n93 k90 (Nat.le_trans (k7.fl hfl) k73.len) (by rw [List.length_map, List.length_take]; omega) (by omega)
        refine ⟨a94, H95, q1, m2 - 1, by omega, t + 1, wsucc ht (by omega), by omega, q3, ?_⟩
        rw [List.take_succ_eq_append_getElem ht, List.map_append]
        exact q2
      · rw [List.take_of_length_le (by omega)] at ho
        have := hfin o H85 (D.map (runAt l)) (k7.call (k73.call k85)) (ho.arr k85) ⟨C, by rw [← hN]; exact hperm, hlex, by rw [hD]⟩
        exact this

end Sp
end Go.RM

/-
  Functions of the program as the abstract machine runs them, and what must be shown of a run: printed by RmPrint.
-/
namespace Go.RM
set_option linter.unusedVariables false
set_option maxRecDepth 4000
def rf_LspeculateExample (nspeculate_Chance nspeculate_Plan nspeculate_Decide nspeculate_Next nspeculate_Useful nFEqualRuns nFEqualInts : Nat) : RFunc := ⟨0, 15, [.var 0],
 ((.seq (.ops [⟨.move (.k (.bool false)), none, (some 0), true⟩])
 ((.seq (.ops [⟨.buildSlice 1 [.int .i64 0] [(0, 1, (.k (.int .i64 50))), (1, 1, (.k (.int .i64 90)))] 2, none, none, true⟩, ⟨.buildSlice 1 [.int .i64 0] [(0, 1, (.k (.int .i64 0)))] 1, none, none, true⟩, ⟨.build [.int .i64 0, .empty] [(0, 1, (.k (.int .i64 1))), (1, 1, (.loc 1))], none, none, true⟩, ⟨.callS nspeculate_Chance [(.loc 0), (.loc 2)], none, none, true⟩, ⟨.move (.loc 3), none, none, true⟩, ⟨.extract (.loc 4) 0, none, none, true⟩, ⟨.extract (.loc 4) 1, none, none, true⟩, ⟨.tomb 1 (.k (.agg [.int .i64 0, .int .i64 0])), none, (some 3), true⟩, ⟨.move (.loc 5), none, (some 2), true⟩, ⟨.upd 2 0 (.loc 7) (.loc 6), none, (some 3), true⟩])
 ((.seq (.ops [⟨.buildSlice 1 [.int .i64 0] [(0, 1, (.k (.int .i64 100))), (1, 1, (.k (.int .i64 100)))] 2, none, none, true⟩, ⟨.callS nspeculate_Plan [(.loc 0), (.k (.int .i64 2))], none, none, true⟩, ⟨.move (.loc 1), none, none, true⟩, ⟨.extract (.loc 2) 0, none, none, true⟩, ⟨.extract (.loc 2) 1, none, none, true⟩, ⟨.tomb 1 (.k (.agg [.int .i64 0, .int .i64 0])), none, (some 4), true⟩, ⟨.move (.loc 3), none, (some 9), true⟩, ⟨.upd 2 0 (.loc 5) (.loc 4), none, (some 4), true⟩])
 ((.seq (.ops [⟨.build [.int .i64 0, .empty] [(0, 1, (.k (.int .i64 0)))], none, none, true⟩, ⟨.build [.int .i64 0, .empty, .bool false] [(0, 2, (.loc 0))], none, none, true⟩, ⟨.build [.int .i64 0, .empty] [(0, 1, (.k (.int .i64 1)))], none, none, true⟩, ⟨.build [.int .i64 0, .empty, .bool false] [(0, 2, (.loc 2)), (2, 1, (.k (.bool true)))], none, none, true⟩, ⟨.buildSlice 3 [.int .i64 0, .empty, .bool false] [(0, 3, (.loc 1)), (3, 3, (.loc 3))] 2, none, none, true⟩, ⟨.move (.loc 4), none, (some 1), true⟩])
 ((.seq (.ops [⟨.move (.var 1), none, none, true⟩, ⟨.callS nspeculate_Decide [(.k (.int .i64 2)), (.loc 0)], none, none, true⟩, ⟨.move (.loc 1), none, none, true⟩, ⟨.extract (.loc 2) 0, none, none, true⟩, ⟨.extract (.loc 2) 1, none, none, true⟩, ⟨.extract (.loc 2) 2, none, none, true⟩, ⟨.tomb 1 (.k (.agg [.int .i64 0, .int .i64 0])), none, (some 5), true⟩, ⟨.move (.loc 3), none, (some 10), true⟩, ⟨.move (.loc 4), none, (some 11), true⟩, ⟨.upd 2 0 (.loc 6) (.loc 5), none, (some 5), true⟩])
 ((.seq (.ops [⟨.move (.var 1), none, none, true⟩, ⟨.slice 3 (.loc 0) none (some (.k (.int .i64 1))) none, none, none, true⟩, ⟨.callS nspeculate_Next [(.k (.int .i64 2)), (.loc 1)], none, none, true⟩, ⟨.move (.loc 2), none, none, true⟩, ⟨.extract (.loc 3) 0, none, none, true⟩, ⟨.extract (.loc 3) 1, none, none, true⟩, ⟨.tomb 1 (.k (.agg [.int .i64 0, .empty])), none, (some 12), true⟩, ⟨.tomb 1 (.k (.agg [.int .i64 0, .int .i64 0])), none, (some 6), true⟩, ⟨.upd 2 0 (.loc 6) (.loc 4), none, (some 12), true⟩, ⟨.upd 2 0 (.loc 7) (.loc 5), none, (some 6), true⟩])
 ((.seq (.ops [⟨.move (.var 1), none, none, true⟩, ⟨.slice 3 (.loc 0) none (some (.k (.int .i64 1))) none, none, none, true⟩, ⟨.buildSlice 1 [.int .i64 0] [(0, 1, (.k (.int .i64 0)))] 1, none, none, true⟩, ⟨.build [.int .i64 0, .empty] [(0, 1, (.k (.int .i64 1))), (1, 1, (.loc 2))], none, none, true⟩, ⟨.callS nspeculate_Useful [(.k (.int .i64 2)), (.loc 1), (.loc 3)], none, none, true⟩, ⟨.move (.loc 4), none, none, true⟩, ⟨.extract (.loc 5) 0, none, none, true⟩, ⟨.extract (.loc 5) 1, none, none, true⟩, ⟨.tomb 1 (.k (.agg [.int .i64 0, .int .i64 0])), none, (some 7), true⟩, ⟨.move (.loc 6), none, (some 13), true⟩, ⟨.upd 2 0 (.loc 8) (.loc 7), none, (some 7), true⟩])
 ((.seq (.ops [⟨.move (.var 1), none, none, true⟩, ⟨.slice 3 (.loc 0) none (some (.k (.int .i64 1))) none, none, none, true⟩, ⟨.build [.int .i64 0, .empty] [(0, 1, (.k (.int .i64 1)))], none, none, true⟩, ⟨.callS nspeculate_Useful [(.k (.int .i64 2)), (.loc 1), (.loc 2)], none, none, true⟩, ⟨.move (.loc 3), none, none, true⟩, ⟨.extract (.loc 4) 0, none, none, true⟩, ⟨.extract (.loc 4) 1, none, none, true⟩, ⟨.tomb 1 (.k (.agg [.int .i64 0, .int .i64 0])), none, (some 8), true⟩, ⟨.move (.loc 5), none, (some 14), true⟩, ⟨.upd 2 0 (.loc 7) (.loc 6), none, (some 8), true⟩])
 ((.seq (.ops [⟨.move (.var 2), none, none, true⟩, ⟨.bin .eql .no (.loc 0) (.k (.int .i64 5000)), none, none, true⟩, ⟨.move (.loc 1), none, none, true⟩, ⟨.field 0 none (.var 3), none, none, true⟩, ⟨.field 0 none (.var 3), none, none, true⟩, ⟨.bin .eql .no (.loc 4) (.k (.int .i64 0)), none, none, true⟩, ⟨.pick (.loc 2) (.loc 5) (.k (.bool false)), none, none, true⟩, ⟨.move (.loc 6), none, none, true⟩, ⟨.field 0 none (.var 4), none, none, true⟩, ⟨.field 0 none (.var 4), none, none, true⟩, ⟨.bin .eql .no (.loc 9) (.k (.int .i64 0)), none, none, true⟩, ⟨.pick (.loc 7) (.loc 10) (.k (.bool false)), none, none, true⟩, ⟨.move (.loc 11), none, none, true⟩, ⟨.field 0 none (.var 5), none, none, true⟩, ⟨.field 0 none (.var 5), none, none, true⟩, ⟨.bin .eql .no (.loc 14) (.k (.int .i64 0)), none, none, true⟩, ⟨.pick (.loc 12) (.loc 15) (.k (.bool false)), none, none, true⟩, ⟨.move (.loc 16), none, none, true⟩, ⟨.field 0 none (.var 6), none, none, true⟩, ⟨.field 0 none (.var 6), none, none, true⟩, ⟨.bin .eql .no (.loc 19) (.k (.int .i64 0)), none, none, true⟩, ⟨.pick (.loc 17) (.loc 20) (.k (.bool false)), none, none, true⟩, ⟨.move (.loc 21), none, none, true⟩, ⟨.field 0 none (.var 7), none, none, true⟩, ⟨.field 0 none (.var 7), none, none, true⟩, ⟨.bin .eql .no (.loc 24) (.k (.int .i64 0)), none, none, true⟩, ⟨.pick (.loc 22) (.loc 25) (.k (.bool false)), none, none, true⟩, ⟨.move (.loc 26), none, none, true⟩, ⟨.field 0 none (.var 8), none, none, true⟩, ⟨.field 0 none (.var 8), none, none, true⟩, ⟨.bin .eql .no (.loc 29) (.k (.int .i64 0)), none, none, true⟩, ⟨.pick (.loc 27) (.loc 30) (.k (.bool false)), none, none, true⟩, ⟨.move (.loc 31), none, none, true⟩, ⟨.move (.var 9), none, none, true⟩, ⟨.len (.loc 33), none, none, true⟩, ⟨.bin .eql .no (.loc 34) (.k (.int .i64 2)), none, none, true⟩, ⟨.pick (.loc 32) (.loc 35) (.k (.bool false)), none, none, true⟩, ⟨.move (.loc 36), none, none, true⟩, ⟨.move (.var 9), none, none, true⟩, ⟨.indexAddr 2 (.loc 38) (.k (.int .i64 1)), (some (37, true)), none, true⟩, ⟨.load (some 2) (.loc 39), (some (37, true)), none, true⟩, ⟨.buildSlice 1 [.int .i64 0] [(0, 1, (.k (.int .i64 0)))] 1, (some (37, true)), none, true⟩, ⟨.build [.int .i64 0, .empty] [(0, 1, (.k (.int .i64 1))), (1, 1, (.loc 41))], (some (37, true)), none, true⟩, ⟨.callS nFEqualRuns [(.loc 40), (.loc 42)], (some (37, true)), none, true⟩, ⟨.pick (.loc 37) (.loc 43) (.k (.bool false)), none, none, true⟩, ⟨.move (.loc 44), none, none, true⟩, ⟨.move (.var 10), none, none, true⟩, ⟨.buildSlice 1 [.int .i64 0] [(0, 1, (.k (.int .i64 1)))] 1, (some (45, true)), none, true⟩, ⟨.callS nFEqualInts [(.loc 46), (.loc 47)], (some (45, true)), none, true⟩, ⟨.pick (.loc 45) (.loc 48) (.k (.bool false)), none, none, true⟩, ⟨.move (.loc 49), none, none, true⟩, ⟨.move (.var 11), none, none, true⟩, ⟨.buildSlice 1 [.int .i64 0] [(0, 1, (.k (.int .i64 0)))] 1, (some (50, true)), none, true⟩, ⟨.callS nFEqualInts [(.loc 51), (.loc 52)], (some (50, true)), none, true⟩, ⟨.pick (.loc 50) (.loc 53) (.k (.bool false)), none, none, true⟩, ⟨.move (.loc 54), none, none, true⟩, ⟨.field 0 (some 2) (.var 12), none, none, true⟩, ⟨.build [.int .i64 0, .empty] [(0, 1, (.k (.int .i64 1)))], none, none, true⟩, ⟨.callS nFEqualRuns [(.loc 56), (.loc 57)], (some (55, true)), none, true⟩, ⟨.pick (.loc 55) (.loc 58) (.k (.bool false)), none, none, true⟩, ⟨.move (.loc 59), none, none, true⟩, ⟨.move (.var 13), none, none, true⟩, ⟨.un .not (.loc 61), none, none, true⟩, ⟨.pick (.loc 60) (.loc 62) (.k (.bool false)), none, none, true⟩, ⟨.move (.loc 63), none, none, true⟩, ⟨.move (.var 14), none, none, true⟩, ⟨.pick (.loc 64) (.loc 65) (.k (.bool false)), none, none, true⟩, ⟨.move (.loc 66), none, (some 0), true⟩])
 (.ret))))))))))))))))))), none⟩
theorem v_LspeculateExample {F : Nat → Option RFunc} {me nspeculate_Chance nspeculate_Plan nspeculate_Decide nspeculate_Next nspeculate_Useful nFEqualRuns nFEqualInts : Nat} (hF : F me = some (rf_LspeculateExample nspeculate_Chance nspeculate_Plan nspeculate_Decide nspeculate_Next nspeculate_Useful nFEqualRuns nFEqualInts)) {fl : Nat} {H : Heap} {Q : AV → Heap → Prop} 
  (h : ∀ (b0 : Nat) (H1 : Heap), NewB H 1 [(.int .i64 50), (.int .i64 90)] b0 H1 → ∀ (b2 : Nat) (H3 : Heap), NewB H1 1 [(.int .i64 0)] b2 H3 → Ret F fl nspeculate_Chance [(.slice b0 0 2 (some 2)), (.agg [(.int .i64 1), (.slice b2 0 1 (some 1))])] H3 (fun v8 H7 => ∃ (r4 : Int) (r5 : Int) (r6 : Int), v8 = (.tuple [(.int .i64 r4), (.agg [(.int .i64 r5), (.int .i64 r6)])]) ∧ ∀ (H9 : Heap), Dead1 H7 1 H9 → ∀ (b10 : Nat) (H11 : Heap), NewB H9 1 [(.int .i64 100), (.int .i64 100)] b10 H11 → Ret F fl nspeculate_Plan [(.slice b10 0 2 (some 2)), (.int .i64 2)] H11 (fun v16 H15 => ∃ (r12 : AV) (r13 : Int) (r14 : Int), v16 = (.tuple [r12, (.agg [(.int .i64 r13), (.int .i64 r14)])]) ∧ ∀ (H17 : Heap), Dead1 H15 1 H17 → ∀ (b18 : Nat) (H19 : Heap), NewB H17 3 [(.int .i64 0), .empty, (.bool false), (.int .i64 1), .empty, (.bool true)] b18 H19 → Ret F fl nspeculate_Decide [(.int .i64 2), (.slice b18 0 2 (some 2))] H19 (fun v25 H24 => ∃ (r20 : AV) (r21 : AV) (r22 : Int) (r23 : Int), v25 = (.tuple [r20, r21, (.agg [(.int .i64 r22), (.int .i64 r23)])]) ∧ ∀ (H26 : Heap), Dead1 H24 1 H26 → ∃ s27 : AV, rslice H26 3 (.slice b18 0 2 (some 2)) none (some (.int .i64 1)) none = some s27 ∧ Ret F fl nspeculate_Next [(.int .i64 2), s27] H26 (fun v33 H32 => ∃ (r28 : Int) (r29 : AV) (r30 : Int) (r31 : Int), v33 = (.tuple [(.agg [(.int .i64 r28), r29]), (.agg [(.int .i64 r30), (.int .i64 r31)])]) ∧ ∀ (H34 : Heap), Dead1 H32 1 H34 → ∀ (H35 : Heap), Dead1 H34 1 H35 → Scal r29 ∧ ∃ s37 : AV, rslice H35 3 (.slice b18 0 2 (some 2)) none (some (.int .i64 1)) none = some s37 ∧ ∀ (b38 : Nat) (H39 : Heap), NewB H35 1 [(.int .i64 0)] b38 H39 → Ret F fl nspeculate_Useful [(.int .i64 2), s37, (.agg [(.int .i64 1), (.slice b38 0 1 (some 1))])] H39 (fun v44 H43 => ∃ (r40 : Bool) (r41 : Int) (r42 : Int), v44 = (.tuple [(.bool r40), (.agg [(.int .i64 r41), (.int .i64 r42)])]) ∧ ∀ (H45 : Heap), Dead1 H43 1 H45 → ∃ s46 : AV, rslice H45 3 (.slice b18 0 2 (some 2)) none (some (.int .i64 1)) none = some s46 ∧ Ret F fl nspeculate_Useful [(.int .i64 2), s46, (.agg [(.int .i64 1), .empty])] H45 (fun v51 H50 => ∃ (r47 : Bool) (r48 : Int) (r49 : Int), v51 = (.tuple [(.bool r47), (.agg [(.int .i64 r48), (.int .i64 r49)])]) ∧ ∀ (H52 : Heap), Dead1 H50 1 H52 → ∃ len53 : Nat, lenA r12 = some len53 ∧ ((((((((((((((((r4 = 5000) ∧ (r5 = 0))) ∧ (r13 = 0))) ∧ (r22 = 0))) ∧ (r30 = 0))) ∧ (r41 = 0))) ∧ (r48 = 0))) ∧ ((len53 : Int) = 2))) → ∃ (e54 : Int) (e55 : AV), getA H52 2 (some 2) r12 1 0 = some (.agg [(.int .i64 e54), e55]) ∧ ∀ (b57 : Nat) (H58 : Heap), NewB H52 1 [(.int .i64 0)] b57 H58 → Ret F fl nFEqualRuns [(.agg [(.int .i64 e54), e55]), (.agg [(.int .i64 1), (.slice b57 0 1 (some 1))])] H58 (fun v61 H60 => ∃ (r59 : Bool), v61 = (.bool r59) ∧ ((r59 = true) → ∀ (b62 : Nat) (H63 : Heap), NewB H60 1 [(.int .i64 1)] b62 H63 → Ret F fl nFEqualInts [r20, (.slice b62 0 1 (some 1))] H63 (fun v66 H65 => ∃ (r64 : Bool), v66 = (.bool r64) ∧ ((r64 = true) → ∀ (b67 : Nat) (H68 : Heap), NewB H65 1 [(.int .i64 0)] b67 H68 → Ret F fl nFEqualInts [r21, (.slice b67 0 1 (some 1))] H68 (fun v71 H70 => ∃ (r69 : Bool), v71 = (.bool r69) ∧ ((r69 = true) → Ret F fl nFEqualRuns [(.agg [(.int .i64 r28), r29]), (.agg [(.int .i64 1), .empty])] H70 (fun v74 H73 => ∃ (r72 : Bool), v74 = (.bool r72) ∧ Q (.bool ((r72 && (!r40)) && r47)) H73)) ∧ (¬(r69 = true) → Q (.bool false) H70))) ∧ (¬(r64 = true) → Q (.bool false) H65))) ∧ (¬(r59 = true) → Q (.bool false) H60))) ∧ (¬(((((((((((((((r4 = 5000) ∧ (r5 = 0))) ∧ (r13 = 0))) ∧ (r22 = 0))) ∧ (r30 = 0))) ∧ (r41 = 0))) ∧ (r48 = 0))) ∧ ((len53 : Int) = 2))) → Q (.bool false) H52)))))))) : Ret F fl me [] H Q := by
  refine ret_intro hF rfl ?_
  refine w_seq ?_
  refine w_run [0] ?_
  refine t_done [(.bool false), .undef, .undef, .undef, .undef, .undef, .undef, .undef, .undef, .undef, .undef, .undef, .undef, .undef, .undef] H (by kernel_rfl) ?_
  refine then_norm ?_
  refine w_seq ?_
  refine w_run [1, 1, 1, 1, 0, 0, 0, 1, 0, 1] ?_
  obtain ⟨b0, H1, hb⟩ : ∃ b H', NewB H 1 [(.int .i64 50), (.int .i64 90)] b H' := ⟨_, _, rfl, rfl⟩
  replace h := h b0 H1 hb
  refine t_bs true 1 [(.int .i64 0)] [(0, 1, .loc 0), (1, 1, .loc 1)] 2 [(.int .i64 50), (.int .i64 90)] [(.int .i64 50), (.int .i64 90)] b0 H1 H (by kernel_rfl) (fill_c (vs := [(.int .i64 50)]) (size := 1) rfl (by kernel_rfl) (by kernel_rfl) (fill_c (vs := [(.int .i64 90)]) (size := 1) rfl (by kernel_rfl) (by kernel_rfl) (by kernel_rfl))) hb ?_
  obtain ⟨b2, H3, hb⟩ : ∃ b H', NewB H1 1 [(.int .i64 0)] b H' := ⟨_, _, rfl, rfl⟩
  replace h := h b2 H3 hb
  refine t_bs true 1 [(.int .i64 0)] [(0, 1, .loc 0)] 1 [(.int .i64 0)] [(.int .i64 0)] b2 H3 H1 (by kernel_rfl) (fill_c (vs := [(.int .i64 0)]) (size := 1) rfl (by kernel_rfl) (by kernel_rfl) (by kernel_rfl)) hb ?_
  refine t_build true [(.int .i64 0), .empty] [(0, 1, .loc 0), (1, 1, .loc 1)] [(.int .i64 1), (.slice b2 0 1 (some 1))] [(.int .i64 1), (.slice b2 0 1 (some 1))] H3 (by kernel_rfl) (fill_c (vs := [(.int .i64 1)]) (size := 1) rfl (by kernel_rfl) (by kernel_rfl) (fill_c (vs := [(.slice b2 0 1 (some 1))]) (size := 1) rfl (by kernel_rfl) (by kernel_rfl) (by kernel_rfl))) ?_
  refine t_call true nspeculate_Chance [(.slice b0 0 2 (some 2)), (.agg [(.int .i64 1), (.slice b2 0 1 (some 1))])] H3 (by kernel_rfl) h ?_
  clear h
  rintro _ H7 ⟨r4, r5, r6, rfl, h⟩
  obtain ⟨H9, hb⟩ : ∃ H', Dead1 H7 1 H' := ⟨_, ⟨rfl⟩⟩
  replace h := h H9 hb
  refine t_tomb true 1 (.agg [(.int .i64 0), (.int .i64 0)]) [(.int .i64 0), (.int .i64 0)] H9 H7 (by kernel_rfl) rfl hb ?_
  refine t_upd true 2 0 [(.int .i64 0), (.int .i64 0)] (.agg [(.int .i64 r5), (.int .i64 r6)]) [(.int .i64 r5), (.int .i64 r6)] [(.int .i64 r5), (.int .i64 r6)] H9 (by kernel_rfl) rfl (all_c rfl (all_c rfl all_n)) ⟨rfl, Nat.le_of_ble_eq_true (by kernel_rfl), rfl⟩ ?_
  refine t_done [(.bool false), .undef, (.int .i64 r4), (.agg [(.int .i64 r5), (.int .i64 r6)]), .undef, .undef, .undef, .undef, .undef, .undef, .undef, .undef, .undef, .undef, .undef] H9 (by kernel_rfl) ?_
  refine then_norm ?_
  refine w_seq ?_
  refine w_run [1, 1, 0, 0, 0, 1, 0, 1] ?_
  obtain ⟨b10, H11, hb⟩ : ∃ b H', NewB H9 1 [(.int .i64 100), (.int .i64 100)] b H' := ⟨_, _, rfl, rfl⟩
  replace h := h b10 H11 hb
  refine t_bs true 1 [(.int .i64 0)] [(0, 1, .loc 0), (1, 1, .loc 1)] 2 [(.int .i64 100), (.int .i64 100)] [(.int .i64 100), (.int .i64 100)] b10 H11 H9 (by kernel_rfl) (fill_c (vs := [(.int .i64 100)]) (size := 1) rfl (by kernel_rfl) (by kernel_rfl) (fill_c (vs := [(.int .i64 100)]) (size := 1) rfl (by kernel_rfl) (by kernel_rfl) (by kernel_rfl))) hb ?_
  refine t_call true nspeculate_Plan [(.slice b10 0 2 (some 2)), (.int .i64 2)] H11 (by kernel_rfl) h ?_
  clear h
  rintro _ H15 ⟨r12, r13, r14, rfl, h⟩
  obtain ⟨H17, hb⟩ : ∃ H', Dead1 H15 1 H' := ⟨_, ⟨rfl⟩⟩
  replace h := h H17 hb
  refine t_tomb true 1 (.agg [(.int .i64 0), (.int .i64 0)]) [(.int .i64 0), (.int .i64 0)] H17 H15 (by kernel_rfl) rfl hb ?_
  refine t_upd true 2 0 [(.int .i64 0), (.int .i64 0)] (.agg [(.int .i64 r13), (.int .i64 r14)]) [(.int .i64 r13), (.int .i64 r14)] [(.int .i64 r13), (.int .i64 r14)] H17 (by kernel_rfl) rfl (all_c rfl (all_c rfl all_n)) ⟨rfl, Nat.le_of_ble_eq_true (by kernel_rfl), rfl⟩ ?_
  refine t_done [(.bool false), .undef, (.int .i64 r4), (.agg [(.int .i64 r5), (.int .i64 r6)]), (.agg [(.int .i64 r13), (.int .i64 r14)]), .undef, .undef, .undef, .undef, r12, .undef, .undef, .undef, .undef, .undef] H17 (by kernel_rfl) ?_
  refine then_norm ?_
  refine w_seq ?_
  refine w_run [1, 1, 1, 1, 1, 0] ?_
  refine t_build true [(.int .i64 0), .empty] [(0, 1, .loc 0)] [(.int .i64 0)] [(.int .i64 0), .empty] H17 (by kernel_rfl) (fill_c (vs := [(.int .i64 0)]) (size := 1) rfl (by kernel_rfl) (by kernel_rfl) (by kernel_rfl)) ?_
  refine t_build true [(.int .i64 0), .empty, (.bool false)] [(0, 2, .loc 0)] [(.agg [(.int .i64 0), .empty])] [(.int .i64 0), .empty, (.bool false)] H17 (by kernel_rfl) (fill_c (vs := [(.int .i64 0), .empty]) (size := 2) rfl (by kernel_rfl) (by kernel_rfl) (by kernel_rfl)) ?_
  refine t_build true [(.int .i64 0), .empty] [(0, 1, .loc 0)] [(.int .i64 1)] [(.int .i64 1), .empty] H17 (by kernel_rfl) (fill_c (vs := [(.int .i64 1)]) (size := 1) rfl (by kernel_rfl) (by kernel_rfl) (by kernel_rfl)) ?_
  refine t_build true [(.int .i64 0), .empty, (.bool false)] [(0, 2, .loc 0), (2, 1, .loc 1)] [(.agg [(.int .i64 1), .empty]), (.bool true)] [(.int .i64 1), .empty, (.bool true)] H17 (by kernel_rfl) (fill_c (vs := [(.int .i64 1), .empty]) (size := 2) rfl (by kernel_rfl) (by kernel_rfl) (fill_c (vs := [(.bool true)]) (size := 1) rfl (by kernel_rfl) (by kernel_rfl) (by kernel_rfl))) ?_
  obtain ⟨b18, H19, hb⟩ : ∃ b H', NewB H17 3 [(.int .i64 0), .empty, (.bool false), (.int .i64 1), .empty, (.bool true)] b H' := ⟨_, _, rfl, rfl⟩
  replace h := h b18 H19 hb
  refine t_bs true 3 [(.int .i64 0), .empty, (.bool false)] [(0, 3, .loc 0), (3, 3, .loc 1)] 2 [(.agg [(.int .i64 0), .empty, (.bool false)]), (.agg [(.int .i64 1), .empty, (.bool true)])] [(.int .i64 0), .empty, (.bool false), (.int .i64 1), .empty, (.bool true)] b18 H19 H17 (by kernel_rfl) (fill_c (vs := [(.int .i64 0), .empty, (.bool false)]) (size := 3) rfl (by kernel_rfl) (by kernel_rfl) (fill_c (vs := [(.int .i64 1), .empty, (.bool true)]) (size := 3) rfl (by kernel_rfl) (by kernel_rfl) (by kernel_rfl))) hb ?_
  refine t_done [(.bool false), (.slice b18 0 2 (some 2)), (.int .i64 r4), (.agg [(.int .i64 r5), (.int .i64 r6)]), (.agg [(.int .i64 r13), (.int .i64 r14)]), .undef, .undef, .undef, .undef, r12, .undef, .undef, .undef, .undef, .undef] H19 (by kernel_rfl) ?_
  refine then_norm ?_
  refine w_seq ?_
  refine w_run [0, 1, 0, 0, 0, 0, 1, 0, 0, 1] ?_
  refine t_call true nspeculate_Decide [(.int .i64 2), (.slice b18 0 2 (some 2))] H19 (by kernel_rfl) h ?_
  clear h
  rintro _ H24 ⟨r20, r21, r22, r23, rfl, h⟩
  obtain ⟨H26, hb⟩ : ∃ H', Dead1 H24 1 H' := ⟨_, ⟨rfl⟩⟩
  replace h := h H26 hb
  refine t_tomb true 1 (.agg [(.int .i64 0), (.int .i64 0)]) [(.int .i64 0), (.int .i64 0)] H26 H24 (by kernel_rfl) rfl hb ?_
  refine t_upd true 2 0 [(.int .i64 0), (.int .i64 0)] (.agg [(.int .i64 r22), (.int .i64 r23)]) [(.int .i64 r22), (.int .i64 r23)] [(.int .i64 r22), (.int .i64 r23)] H26 (by kernel_rfl) rfl (all_c rfl (all_c rfl all_n)) ⟨rfl, Nat.le_of_ble_eq_true (by kernel_rfl), rfl⟩ ?_
  refine t_done [(.bool false), (.slice b18 0 2 (some 2)), (.int .i64 r4), (.agg [(.int .i64 r5), (.int .i64 r6)]), (.agg [(.int .i64 r13), (.int .i64 r14)]), (.agg [(.int .i64 r22), (.int .i64 r23)]), .undef, .undef, .undef, r12, r20, r21, .undef, .undef, .undef] H26 (by kernel_rfl) ?_
  refine then_norm ?_
  refine w_seq ?_
  refine w_run [0, 1, 1, 0, 0, 0, 1, 1, 1, 1] ?_
  obtain ⟨s27, hs, h⟩ := h
  refine t_slcH true 3 (.slice b18 0 2 (some 2)) (.int .i64 1) s27 H26 (by kernel_rfl) hs ?_
  refine t_call true nspeculate_Next [(.int .i64 2), s27] H26 (by kernel_rfl) h ?_
  clear h
  rintro _ H32 ⟨r28, r29, r30, r31, rfl, h⟩
  obtain ⟨H34, hb⟩ : ∃ H', Dead1 H32 1 H' := ⟨_, ⟨rfl⟩⟩
  replace h := h H34 hb
  refine t_tomb true 1 (.agg [(.int .i64 0), .empty]) [(.int .i64 0), .empty] H34 H32 (by kernel_rfl) rfl hb ?_
  obtain ⟨H35, hb⟩ : ∃ H', Dead1 H34 1 H' := ⟨_, ⟨rfl⟩⟩
  replace h := h H35 hb
  refine t_tomb true 1 (.agg [(.int .i64 0), (.int .i64 0)]) [(.int .i64 0), (.int .i64 0)] H35 H34 (by kernel_rfl) rfl hb ?_
  obtain ⟨hs36, h⟩ := h
  refine t_upd true 2 0 [(.int .i64 0), .empty] (.agg [(.int .i64 r28), r29]) [(.int .i64 r28), r29] [(.int .i64 r28), r29] H35 (by kernel_rfl) rfl (all_c rfl (all_c hs36.2 all_n)) ⟨rfl, Nat.le_of_ble_eq_true (by kernel_rfl), rfl⟩ ?_
  refine t_upd true 2 0 [(.int .i64 0), (.int .i64 0)] (.agg [(.int .i64 r30), (.int .i64 r31)]) [(.int .i64 r30), (.int .i64 r31)] [(.int .i64 r30), (.int .i64 r31)] H35 (by kernel_rfl) rfl (all_c rfl (all_c rfl all_n)) ⟨rfl, Nat.le_of_ble_eq_true (by kernel_rfl), rfl⟩ ?_
  refine t_done [(.bool false), (.slice b18 0 2 (some 2)), (.int .i64 r4), (.agg [(.int .i64 r5), (.int .i64 r6)]), (.agg [(.int .i64 r13), (.int .i64 r14)]), (.agg [(.int .i64 r22), (.int .i64 r23)]), (.agg [(.int .i64 r30), (.int .i64 r31)]), .undef, .undef, r12, r20, r21, (.agg [(.int .i64 r28), r29]), .undef, .undef] H35 (by kernel_rfl) ?_
  refine then_norm ?_
  refine w_seq ?_
  refine w_run [0, 1, 1, 1, 1, 0, 0, 0, 1, 0, 1] ?_
  obtain ⟨s37, hs, h⟩ := h
  refine t_slcH true 3 (.slice b18 0 2 (some 2)) (.int .i64 1) s37 H35 (by kernel_rfl) hs ?_
  obtain ⟨b38, H39, hb⟩ : ∃ b H', NewB H35 1 [(.int .i64 0)] b H' := ⟨_, _, rfl, rfl⟩
  replace h := h b38 H39 hb
  refine t_bs true 1 [(.int .i64 0)] [(0, 1, .loc 0)] 1 [(.int .i64 0)] [(.int .i64 0)] b38 H39 H35 (by kernel_rfl) (fill_c (vs := [(.int .i64 0)]) (size := 1) rfl (by kernel_rfl) (by kernel_rfl) (by kernel_rfl)) hb ?_
  refine t_build true [(.int .i64 0), .empty] [(0, 1, .loc 0), (1, 1, .loc 1)] [(.int .i64 1), (.slice b38 0 1 (some 1))] [(.int .i64 1), (.slice b38 0 1 (some 1))] H39 (by kernel_rfl) (fill_c (vs := [(.int .i64 1)]) (size := 1) rfl (by kernel_rfl) (by kernel_rfl) (fill_c (vs := [(.slice b38 0 1 (some 1))]) (size := 1) rfl (by kernel_rfl) (by kernel_rfl) (by kernel_rfl))) ?_
  refine t_call true nspeculate_Useful [(.int .i64 2), s37, (.agg [(.int .i64 1), (.slice b38 0 1 (some 1))])] H39 (by kernel_rfl) h ?_
  clear h
  rintro _ H43 ⟨r40, r41, r42, rfl, h⟩
  obtain ⟨H45, hb⟩ : ∃ H', Dead1 H43 1 H' := ⟨_, ⟨rfl⟩⟩
  replace h := h H45 hb
  refine t_tomb true 1 (.agg [(.int .i64 0), (.int .i64 0)]) [(.int .i64 0), (.int .i64 0)] H45 H43 (by kernel_rfl) rfl hb ?_
  refine t_upd true 2 0 [(.int .i64 0), (.int .i64 0)] (.agg [(.int .i64 r41), (.int .i64 r42)]) [(.int .i64 r41), (.int .i64 r42)] [(.int .i64 r41), (.int .i64 r42)] H45 (by kernel_rfl) rfl (all_c rfl (all_c rfl all_n)) ⟨rfl, Nat.le_of_ble_eq_true (by kernel_rfl), rfl⟩ ?_
  refine t_done [(.bool false), (.slice b18 0 2 (some 2)), (.int .i64 r4), (.agg [(.int .i64 r5), (.int .i64 r6)]), (.agg [(.int .i64 r13), (.int .i64 r14)]), (.agg [(.int .i64 r22), (.int .i64 r23)]), (.agg [(.int .i64 r30), (.int .i64 r31)]), (.agg [(.int .i64 r41), (.int .i64 r42)]), .undef, r12, r20, r21, (.agg [(.int .i64 r28), r29]), (.bool r40), .undef] H45 (by kernel_rfl) ?_
  refine then_norm ?_
  refine w_seq ?_
  refine w_run [0, 1, 1, 1, 0, 0, 0, 1, 0, 1] ?_
  obtain ⟨s46, hs, h⟩ := h
  refine t_slcH true 3 (.slice b18 0 2 (some 2)) (.int .i64 1) s46 H45 (by kernel_rfl) hs ?_
  refine t_build true [(.int .i64 0), .empty] [(0, 1, .loc 0)] [(.int .i64 1)] [(.int .i64 1), .empty] H45 (by kernel_rfl) (fill_c (vs := [(.int .i64 1)]) (size := 1) rfl (by kernel_rfl) (by kernel_rfl) (by kernel_rfl)) ?_
  refine t_call true nspeculate_Useful [(.int .i64 2), s46, (.agg [(.int .i64 1), .empty])] H45 (by kernel_rfl) h ?_
  clear h
  rintro _ H50 ⟨r47, r48, r49, rfl, h⟩
  obtain ⟨H52, hb⟩ : ∃ H', Dead1 H50 1 H' := ⟨_, ⟨rfl⟩⟩
  replace h := h H52 hb
  refine t_tomb true 1 (.agg [(.int .i64 0), (.int .i64 0)]) [(.int .i64 0), (.int .i64 0)] H52 H50 (by kernel_rfl) rfl hb ?_
  refine t_upd true 2 0 [(.int .i64 0), (.int .i64 0)] (.agg [(.int .i64 r48), (.int .i64 r49)]) [(.int .i64 r48), (.int .i64 r49)] [(.int .i64 r48), (.int .i64 r49)] H52 (by kernel_rfl) rfl (all_c rfl (all_c rfl all_n)) ⟨rfl, Nat.le_of_ble_eq_true (by kernel_rfl), rfl⟩ ?_
  refine t_done [(.bool false), (.slice b18 0 2 (some 2)), (.int .i64 r4), (.agg [(.int .i64 r5), (.int .i64 r6)]), (.agg [(.int .i64 r13), (.int .i64 r14)]), (.agg [(.int .i64 r22), (.int .i64 r23)]), (.agg [(.int .i64 r30), (.int .i64 r31)]), (.agg [(.int .i64 r41), (.int .i64 r42)]), (.agg [(.int .i64 r48), (.int .i64 r49)]), r12, r20, r21, (.agg [(.int .i64 r28), r29]), (.bool r40), (.bool r47)] H52 (by kernel_rfl) ?_
  refine then_norm ?_
  refine w_seq ?_
  refine w_run [0, 0, 0, 0, 0, 0, 0, 0, 0, 0, 0, 0, 0, 0, 0, 0, 0, 0, 0, 0, 0, 0, 0, 0, 0, 0, 0, 0, 0, 0, 0, 0, 0, 0, 1, 0, 0, 0, 0, 3, 3, 3, 3, 3, 0, 0, 0, 3, 3, 0, 0, 0, 3, 3, 0, 0, 0, 1, 3, 0, 0, 0, 0, 0, 0, 0, 0, 0] ?_
  obtain ⟨len53, hl, h⟩ := h
  refine t_len true r12 len53 H52 (by kernel_rfl) hl ?_
  refine t_gd (((((((((r4) == 5000) && ((r5) == 0)) && ((r13) == 0)) && ((r22) == 0)) && ((r30) == 0)) && ((r41) == 0)) && ((r48) == 0)) && (((len53 : Int)) == 2)) true (by kernel_rfl) (fun hc => ?_) (fun hc => ?_)
  · replace h := h.1 ((is_and (is_and (is_and (is_and (is_and (is_and (is_and is_eq is_eq) is_eq) is_eq) is_eq) is_eq) is_eq) is_eq).t hc)
    obtain ⟨e54, e55, hg56, h⟩ := h
    refine t_idxG true 2 r12 .i64 1 H52 (by kernel_rfl) hg56 ?_
    refine t_gd true true (by kernel_rfl) (fun _ => ?_) (fun hn => by cases hn)
    refine t_loadG true (some 2) 2 r12 1 0 (.agg [(.int .i64 e54), e55]) H52 (by kernel_rfl) hg56 ?_
    refine t_gd true true (by kernel_rfl) (fun _ => ?_) (fun hn => by cases hn)
    obtain ⟨b57, H58, hb⟩ : ∃ b H', NewB H52 1 [(.int .i64 0)] b H' := ⟨_, _, rfl, rfl⟩
    replace h := h b57 H58 hb
    refine t_bs true 1 [(.int .i64 0)] [(0, 1, .loc 0)] 1 [(.int .i64 0)] [(.int .i64 0)] b57 H58 H52 (by kernel_rfl) (fill_c (vs := [(.int .i64 0)]) (size := 1) rfl (by kernel_rfl) (by kernel_rfl) (by kernel_rfl)) hb ?_
    refine t_gd true true (by kernel_rfl) (fun _ => ?_) (fun hn => by cases hn)
    refine t_build true [(.int .i64 0), .empty] [(0, 1, .loc 0), (1, 1, .loc 1)] [(.int .i64 1), (.slice b57 0 1 (some 1))] [(.int .i64 1), (.slice b57 0 1 (some 1))] H58 (by kernel_rfl) (fill_c (vs := [(.int .i64 1)]) (size := 1) rfl (by kernel_rfl) (by kernel_rfl) (fill_c (vs := [(.slice b57 0 1 (some 1))]) (size := 1) rfl (by kernel_rfl) (by kernel_rfl) (by kernel_rfl))) ?_
    refine t_gd true true (by kernel_rfl) (fun _ => ?_) (fun hn => by cases hn)
    refine t_call true nFEqualRuns [(.agg [(.int .i64 e54), e55]), (.agg [(.int .i64 1), (.slice b57 0 1 (some 1))])] H58 (by kernel_rfl) h ?_
    clear h
    rintro _ H60 ⟨r59, rfl, h⟩
    refine t_gd r59 true (by kernel_rfl) (fun hc => ?_) (fun hc => ?_)
    · replace h := h.1 (is_raw.t hc)
      obtain ⟨b62, H63, hb⟩ : ∃ b H', NewB H60 1 [(.int .i64 1)] b H' := ⟨_, _, rfl, rfl⟩
      replace h := h b62 H63 hb
      refine t_bs true 1 [(.int .i64 0)] [(0, 1, .loc 0)] 1 [(.int .i64 1)] [(.int .i64 1)] b62 H63 H60 (by kernel_rfl) (fill_c (vs := [(.int .i64 1)]) (size := 1) rfl (by kernel_rfl) (by kernel_rfl) (by kernel_rfl)) hb ?_
      refine t_gd true true (by kernel_rfl) (fun _ => ?_) (fun hn => by cases hn)
      refine t_call true nFEqualInts [r20, (.slice b62 0 1 (some 1))] H63 (by kernel_rfl) h ?_
      clear h
      rintro _ H65 ⟨r64, rfl, h⟩
      refine t_gd r64 true (by kernel_rfl) (fun hc => ?_) (fun hc => ?_)
      · replace h := h.1 (is_raw.t hc)
        obtain ⟨b67, H68, hb⟩ : ∃ b H', NewB H65 1 [(.int .i64 0)] b H' := ⟨_, _, rfl, rfl⟩
        replace h := h b67 H68 hb
        refine t_bs true 1 [(.int .i64 0)] [(0, 1, .loc 0)] 1 [(.int .i64 0)] [(.int .i64 0)] b67 H68 H65 (by kernel_rfl) (fill_c (vs := [(.int .i64 0)]) (size := 1) rfl (by kernel_rfl) (by kernel_rfl) (by kernel_rfl)) hb ?_
        refine t_gd true true (by kernel_rfl) (fun _ => ?_) (fun hn => by cases hn)
        refine t_call true nFEqualInts [r21, (.slice b67 0 1 (some 1))] H68 (by kernel_rfl) h ?_
        clear h
        rintro _ H70 ⟨r69, rfl, h⟩
        refine t_build true [(.int .i64 0), .empty] [(0, 1, .loc 0)] [(.int .i64 1)] [(.int .i64 1), .empty] H70 (by kernel_rfl) (fill_c (vs := [(.int .i64 1)]) (size := 1) rfl (by kernel_rfl) (by kernel_rfl) (by kernel_rfl)) ?_
        refine t_gd r69 true (by kernel_rfl) (fun hc => ?_) (fun hc => ?_)
        · replace h := h.1 (is_raw.t hc)
          refine t_call true nFEqualRuns [(.agg [(.int .i64 r28), r29]), (.agg [(.int .i64 1), .empty])] H70 (by kernel_rfl) h ?_
          clear h
          rintro _ H73 ⟨r72, rfl, h⟩
          refine t_done [(.bool ((r72 && (!r40)) && r47)), (.slice b18 0 2 (some 2)), (.int .i64 r4), (.agg [(.int .i64 r5), (.int .i64 r6)]), (.agg [(.int .i64 r13), (.int .i64 r14)]), (.agg [(.int .i64 r22), (.int .i64 r23)]), (.agg [(.int .i64 r30), (.int .i64 r31)]), (.agg [(.int .i64 r41), (.int .i64 r42)]), (.agg [(.int .i64 r48), (.int .i64 r49)]), r12, r20, r21, (.agg [(.int .i64 r28), r29]), (.bool r40), (.bool r47)] H73 (by kernel_rfl) ?_
          refine then_norm ?_
          refine w_ret ?_
          exact body_ret (vs := [(.bool ((r72 && (!r40)) && r47))]) _ (by kernel_rfl) rfl h
        · replace h := h.2 (is_raw.f hc)
          refine t_done [(.bool false), (.slice b18 0 2 (some 2)), (.int .i64 r4), (.agg [(.int .i64 r5), (.int .i64 r6)]), (.agg [(.int .i64 r13), (.int .i64 r14)]), (.agg [(.int .i64 r22), (.int .i64 r23)]), (.agg [(.int .i64 r30), (.int .i64 r31)]), (.agg [(.int .i64 r41), (.int .i64 r42)]), (.agg [(.int .i64 r48), (.int .i64 r49)]), r12, r20, r21, (.agg [(.int .i64 r28), r29]), (.bool r40), (.bool r47)] H70 (by kernel_rfl) ?_
          refine then_norm ?_
          refine w_ret ?_
          exact body_ret (vs := [(.bool false)]) _ (by kernel_rfl) rfl h
      · replace h := h.2 (is_raw.f hc)
        refine t_gd false true (by kernel_rfl) (fun hn => by cases hn) (fun _ => ?_)
        refine t_build true [(.int .i64 0), .empty] [(0, 1, .loc 0)] [(.int .i64 1)] [(.int .i64 1), .empty] H65 (by kernel_rfl) (fill_c (vs := [(.int .i64 1)]) (size := 1) rfl (by kernel_rfl) (by kernel_rfl) (by kernel_rfl)) ?_
        refine t_gd false true (by kernel_rfl) (fun hn => by cases hn) (fun _ => ?_)
        refine t_done [(.bool false), (.slice b18 0 2 (some 2)), (.int .i64 r4), (.agg [(.int .i64 r5), (.int .i64 r6)]), (.agg [(.int .i64 r13), (.int .i64 r14)]), (.agg [(.int .i64 r22), (.int .i64 r23)]), (.agg [(.int .i64 r30), (.int .i64 r31)]), (.agg [(.int .i64 r41), (.int .i64 r42)]), (.agg [(.int .i64 r48), (.int .i64 r49)]), r12, r20, r21, (.agg [(.int .i64 r28), r29]), (.bool r40), (.bool r47)] H65 (by kernel_rfl) ?_
        refine then_norm ?_
        refine w_ret ?_
        exact body_ret (vs := [(.bool false)]) _ (by kernel_rfl) rfl h
    · replace h := h.2 (is_raw.f hc)
      refine t_gd false true (by kernel_rfl) (fun hn => by cases hn) (fun _ => ?_)
      refine t_gd false true (by kernel_rfl) (fun hn => by cases hn) (fun _ => ?_)
      refine t_gd false true (by kernel_rfl) (fun hn => by cases hn) (fun _ => ?_)
      refine t_build true [(.int .i64 0), .empty] [(0, 1, .loc 0)] [(.int .i64 1)] [(.int .i64 1), .empty] H60 (by kernel_rfl) (fill_c (vs := [(.int .i64 1)]) (size := 1) rfl (by kernel_rfl) (by kernel_rfl) (by kernel_rfl)) ?_
      refine t_gd false true (by kernel_rfl) (fun hn => by cases hn) (fun _ => ?_)
      refine t_done [(.bool false), (.slice b18 0 2 (some 2)), (.int .i64 r4), (.agg [(.int .i64 r5), (.int .i64 r6)]), (.agg [(.int .i64 r13), (.int .i64 r14)]), (.agg [(.int .i64 r22), (.int .i64 r23)]), (.agg [(.int .i64 r30), (.int .i64 r31)]), (.agg [(.int .i64 r41), (.int .i64 r42)]), (.agg [(.int .i64 r48), (.int .i64 r49)]), r12, r20, r21, (.agg [(.int .i64 r28), r29]), (.bool r40), (.bool r47)] H60 (by kernel_rfl) ?_
      refine then_norm ?_
      refine w_ret ?_
      exact body_ret (vs := [(.bool false)]) _ (by kernel_rfl) rfl h
  · replace h := h.2 ((is_and (is_and (is_and (is_and (is_and (is_and (is_and is_eq is_eq) is_eq) is_eq) is_eq) is_eq) is_eq) is_eq).f hc)
    refine t_gd false true (by kernel_rfl) (fun hn => by cases hn) (fun _ => ?_)
    refine t_gd false true (by kernel_rfl) (fun hn => by cases hn) (fun _ => ?_)
    refine t_gd false true (by kernel_rfl) (fun hn => by cases hn) (fun _ => ?_)
    refine t_gd false true (by kernel_rfl) (fun hn => by cases hn) (fun _ => ?_)
    refine t_gd false true (by kernel_rfl) (fun hn => by cases hn) (fun _ => ?_)
    refine t_gd false true (by kernel_rfl) (fun hn => by cases hn) (fun _ => ?_)
    refine t_gd false true (by kernel_rfl) (fun hn => by cases hn) (fun _ => ?_)
    refine t_gd false true (by kernel_rfl) (fun hn => by cases hn) (fun _ => ?_)
    refine t_build true [(.int .i64 0), .empty] [(0, 1, .loc 0)] [(.int .i64 1)] [(.int .i64 1), .empty] H52 (by kernel_rfl) (fill_c (vs := [(.int .i64 1)]) (size := 1) rfl (by kernel_rfl) (by kernel_rfl) (by kernel_rfl)) ?_
    refine t_gd false true (by kernel_rfl) (fun hn => by cases hn) (fun _ => ?_)
    refine t_done [(.bool false), (.slice b18 0 2 (some 2)), (.int .i64 r4), (.agg [(.int .i64 r5), (.int .i64 r6)]), (.agg [(.int .i64 r13), (.int .i64 r14)]), (.agg [(.int .i64 r22), (.int .i64 r23)]), (.agg [(.int .i64 r30), (.int .i64 r31)]), (.agg [(.int .i64 r41), (.int .i64 r42)]), (.agg [(.int .i64 r48), (.int .i64 r49)]), r12, r20, r21, (.agg [(.int .i64 r28), r29]), (.bool r40), (.bool r47)] H52 (by kernel_rfl) ?_
    refine then_norm ?_
    refine w_ret ?_
    exact body_ret (vs := [(.bool false)]) _ (by kernel_rfl) rfl h

def rf_LSpeculateChancesAddUp (nLspeculateExample nFPercentsFault nFRunOf nspeculate_Chance : Nat) : RFunc := ⟨2, 14, [.var 2],
 ((.seq (.ops [⟨.move (.k (.bool false)), none, (some 2), true⟩])
 ((.seq ((.seq (.ops [⟨.callS nLspeculateExample [], none, none, true⟩, ⟨.un .not (.loc 0), none, (some 3), true⟩])
 (.cond (.var 3) ((.seq (.ops [⟨.move (.k (.bool false)), none, (some 2), true⟩])
 (.ret))) (.skip))))
 ((.seq ((.seq (.ops [⟨.move (.var 0), none, none, true⟩, ⟨.callS nFPercentsFault [(.loc 0)], none, none, true⟩, ⟨.field 0 none (.loc 1), none, none, true⟩, ⟨.bin .neq .no (.loc 2) (.k (.int .i64 0)), none, none, true⟩, ⟨.move (.loc 3), none, none, true⟩, ⟨.move (.var 1), none, none, true⟩, ⟨.bin .lss .no (.loc 5) (.k (.int .i64 0)), none, none, true⟩, ⟨.pick (.loc 4) (.k (.bool true)) (.loc 6), none, none, true⟩, ⟨.move (.loc 7), none, none, true⟩, ⟨.move (.var 1), none, none, true⟩, ⟨.move (.var 0), none, none, true⟩, ⟨.len (.loc 10), none, none, true⟩, ⟨.bin .geq .no (.loc 9) (.loc 11), none, none, true⟩, ⟨.pick (.loc 8) (.k (.bool true)) (.loc 12), none, (some 4), true⟩])
 (.cond (.var 4) ((.seq (.ops [⟨.move (.k (.bool true)), none, (some 2), true⟩])
 (.ret))) (.skip))))
 ((.seq (.ops [⟨.move (.k (.int .i64 0)), none, (some 10), true⟩])
 ((.seq ((.seq (.ops [⟨.move (.k (.int .i64 0)), none, (some 5), true⟩])
 (.block 0 (.loop ((.seq ((.seq (.ops [⟨.move (.var 5), none, none, true⟩, ⟨.move (.var 1), none, none, true⟩, ⟨.bin .shl .no (.k (.int .i64 1)) (.loc 1), none, none, true⟩, ⟨.bin .lss .no (.loc 0) (.loc 2), none, (some 6), true⟩])
 (.cond (.var 6) (.skip) (.exit 0))))
 ((.seq (.block 1 ((.seq (.ops [⟨.move (.var 0), none, none, true⟩, ⟨.move (.var 1), none, none, true⟩, ⟨.move (.var 5), none, none, true⟩, ⟨.callS nFRunOf [(.loc 1), (.loc 2)], none, none, true⟩, ⟨.callS nspeculate_Chance [(.loc 0), (.loc 3)], none, none, true⟩, ⟨.move (.loc 4), none, none, true⟩, ⟨.extract (.loc 5) 0, none, none, true⟩, ⟨.extract (.loc 5) 1, none, none, true⟩, ⟨.tomb 1 (.k (.agg [.int .i64 0, .int .i64 0])), none, (some 7), true⟩, ⟨.move (.loc 6), none, (some 8), true⟩, ⟨.upd 2 0 (.loc 8) (.loc 7), none, (some 7), true⟩])
 ((.seq ((.seq (.ops [⟨.field 0 none (.var 7), none, none, true⟩, ⟨.field 0 none (.var 7), none, none, true⟩, ⟨.bin .neq .no (.loc 1) (.k (.int .i64 0)), none, none, true⟩, ⟨.move (.loc 2), none, none, true⟩, ⟨.move (.var 8), none, none, true⟩, ⟨.bin .lss .no (.loc 4) (.k (.int .i64 0)), none, none, true⟩, ⟨.pick (.loc 3) (.k (.bool true)) (.loc 5), none, (some 9), true⟩])
 (.cond (.var 9) ((.seq (.ops [⟨.move (.k (.bool false)), none, (some 2), true⟩])
 (.ret))) (.skip))))
 (.ops [⟨.move (.var 10), none, none, true⟩, ⟨.move (.var 8), none, none, true⟩, ⟨.bin .add .no (.loc 0) (.loc 1), none, none, true⟩, ⟨.move (.loc 2), none, (some 10), true⟩]))))))
 (.ops [⟨.move (.var 5), none, none, true⟩, ⟨.bin .add .no (.loc 0) (.k (.int .i64 1)), none, none, true⟩, ⟨.move (.loc 1), none, (some 5), true⟩])))))))))
 ((.seq ((.seq (.ops [⟨.move (.k (.int .i64 0)), none, (some 11), true⟩])
 (.block 2 (.loop ((.seq ((.seq (.ops [⟨.move (.var 11), none, none, true⟩, ⟨.move (.var 0), none, none, true⟩, ⟨.len (.loc 1), none, none, true⟩, ⟨.bin .lss .no (.loc 0) (.loc 2), none, (some 12), true⟩])
 (.cond (.var 12) (.skip) (.exit 2))))
 ((.seq (.block 3 ((.seq ((.seq (.ops [⟨.move (.var 10), none, none, true⟩, ⟨.bin .rem .no (.loc 0) (.k (.int .i64 100)), none, none, true⟩, ⟨.bin .neq .no (.loc 1) (.k (.int .i64 0)), none, (some 13), true⟩])
 (.cond (.var 13) ((.seq (.ops [⟨.move (.k (.bool false)), none, (some 2), true⟩])
 (.ret))) (.skip))))
 (.ops [⟨.move (.var 10), none, none, true⟩, ⟨.bin .quo .no (.loc 0) (.k (.int .i64 100)), none, none, true⟩, ⟨.move (.loc 1), none, (some 10), true⟩]))))
 (.ops [⟨.move (.var 11), none, none, true⟩, ⟨.bin .add .no (.loc 0) (.k (.int .i64 1)), none, none, true⟩, ⟨.move (.loc 1), none, (some 11), true⟩])))))))))
 ((.seq (.ops [⟨.move (.var 10), none, none, true⟩, ⟨.bin .eql .no (.loc 0) (.k (.int .i64 1)), none, none, true⟩, ⟨.move (.loc 1), none, (some 2), true⟩])
 (.ret))))))))))))))), none⟩
theorem v_LSpeculateChancesAddUp {F : Nat → Option RFunc} {me nLspeculateExample nFPercentsFault nFRunOf nspeculate_Chance : Nat} (hF : F me = some (rf_LSpeculateChancesAddUp nLspeculateExample nFPercentsFault nFRunOf nspeculate_Chance)) {fl : Nat} {H : Heap} {Q : AV → Heap → Prop} (percents0 : AV) (last1 : Int)
  (h : Ret F fl nLspeculateExample [] H (fun v4 H3 => ∃ (r2 : Bool), v4 = (.bool r2) ∧ ((¬(r2 = true)) → Q (.bool false) H3) ∧ (¬(¬(r2 = true)) → Ret F fl nFPercentsFault [percents0] H3 (fun v8 H7 => ∃ (r5 : Int) (r6 : Int), v8 = (.agg [(.int .i64 r5), (.int .i64 r6)]) ∧ ∃ len9 : Nat, lenA percents0 = some len9 ∧ ((((((r5 ≠ 0) ∨ (last1 < 0))) ∨ (last1 ≥ (len9 : Int)))) → Q (.bool true) H7) ∧ (¬(((((r5 ≠ 0) ∨ (last1 < 0))) ∨ (last1 ≥ (len9 : Int)))) → ∃ (J10 : Nat → Int → Int → Heap → Prop) (k11 : Nat), J10 k11 0 0 H7 ∧ (∀ (m12 : Nat) (weight14 : Int) (sum19 : Int) (H20 : Heap), J10 m12 weight14 sum19 H20 → 0 ≤ last1 ∧ ((weight14 < (IntKind.wrap .i64 (1 * 2 ^ (Min.min (Int.toNat last1) (IntKind.bits .i64))))) → Ret F fl nFRunOf [(.int .i64 last1), (.int .i64 weight14)] H20 (fun v24 H23 => ∃ (r21 : Int) (r22 : AV), v24 = (.agg [(.int .i64 r21), r22]) ∧ Ret F fl nspeculate_Chance [percents0, (.agg [(.int .i64 r21), r22])] H23 (fun v29 H28 => ∃ (r25 : Int) (r26 : Int) (r27 : Int), v29 = (.tuple [(.int .i64 r25), (.agg [(.int .i64 r26), (.int .i64 r27)])]) ∧ ∀ (H30 : Heap), Dead1 H28 1 H30 → ((((r26 ≠ 0) ∨ (r25 < 0))) → Q (.bool false) H30) ∧ (¬(((r26 ≠ 0) ∨ (r25 < 0))) → ∃ m31 : Nat, m31 < m12 ∧ J10 m31 (IntKind.wrap .i64 (weight14 + 1)) (IntKind.wrap .i64 (sum19 + r25)) H30)))) ∧ (¬(weight14 < (IntKind.wrap .i64 (1 * 2 ^ (Min.min (Int.toNat last1) (IntKind.bits .i64))))) → ∃ (J32 : Nat → Int → Int → Prop) (k33 : Nat), J32 k33 sum19 0 ∧ (∀ (m34 : Nat) (sum36 : Int) (i37 : Int), J32 m34 sum36 i37 → ∃ len40 : Nat, lenA percents0 = some len40 ∧ ((i37 < (len40 : Int)) → (((Int.tmod sum36 100) ≠ 0) → Q (.bool false) H20) ∧ (¬((Int.tmod sum36 100) ≠ 0) → ∃ m41 : Nat, m41 < m34 ∧ J32 m41 (IntKind.wrap .i64 (Int.tdiv sum36 100)) (IntKind.wrap .i64 (i37 + 1)))) ∧ (¬(i37 < (len40 : Int)) → Q (.bool ((sum36) == 1)) H20))))))))) : Ret F fl me [percents0, (.int .i64 last1)] H Q := by
  refine ret_intro hF rfl ?_
  refine w_seq ?_
  refine w_run [0] ?_
  refine t_done [percents0, (.int .i64 last1), (.bool false), .undef, .undef, .undef, .undef, .undef, .undef, .undef, .undef, .undef, .undef, .undef] H (by kernel_rfl) ?_
  refine then_norm ?_
  refine w_seq ?_
  refine w_seq ?_
  refine w_run [1, 0] ?_
  refine t_call true nLspeculateExample [] H (by kernel_rfl) h ?_
  clear h
  rintro _ H3 ⟨r2, rfl, h⟩
  refine t_done [percents0, (.int .i64 last1), (.bool false), (.bool (!r2)), .undef, .undef, .undef, .undef, .undef, .undef, .undef, .undef, .undef, .undef] H3 (by kernel_rfl) ?_
  refine then_norm ?_
  refine w_cond (t := (!r2)) rfl (fun hc => ?_) (fun hc => ?_)
  · replace h := h.1 ((is_not is_raw).t hc)
    refine w_seq ?_
    refine w_run [0] ?_
    refine t_done [percents0, (.int .i64 last1), (.bool false), (.bool (!r2)), .undef, .undef, .undef, .undef, .undef, .undef, .undef, .undef, .undef, .undef] H3 (by kernel_rfl) ?_
    refine then_norm ?_
    refine w_ret ?_
    refine then_ret ?_
    exact body_ret (vs := [(.bool false)]) _ (by kernel_rfl) rfl h
  · replace h := h.2 ((is_not is_raw).f hc)
    refine w_skip ?_
    refine then_norm ?_
    refine w_seq ?_
    refine w_seq ?_
    refine w_run [0, 1, 0, 0, 0, 0, 0, 0, 0, 0, 0, 1, 0, 0] ?_
    refine t_call true nFPercentsFault [percents0] H3 (by kernel_rfl) h ?_
    clear h
    rintro _ H7 ⟨r5, r6, rfl, h⟩
    obtain ⟨len9, hl, h⟩ := h
    refine t_len true percents0 len9 H7 (by kernel_rfl) hl ?_
    refine t_done [percents0, (.int .i64 last1), (.bool false), (.bool (!r2)), (.bool ((((r5) != 0) || (decide (last1 < 0))) || (decide (last1 ≥ (len9 : Int))))), .undef, .undef, .undef, .undef, .undef, .undef, .undef, .undef, .undef] H7 (by kernel_rfl) ?_
    refine then_norm ?_
    refine w_cond (t := ((((r5) != 0) || (decide (last1 < 0))) || (decide (last1 ≥ (len9 : Int))))) rfl (fun hc => ?_) (fun hc => ?_)
    · replace h := h.1 ((is_or (is_or is_ne is_dec) is_dec).t hc)
      refine w_seq ?_
      refine w_run [0] ?_
      refine t_done [percents0, (.int .i64 last1), (.bool true), (.bool (!r2)), (.bool ((((r5) != 0) || (decide (last1 < 0))) || (decide (last1 ≥ (len9 : Int))))), .undef, .undef, .undef, .undef, .undef, .undef, .undef, .undef, .undef] H7 (by kernel_rfl) ?_
      refine then_norm ?_
      refine w_ret ?_
      refine then_ret ?_
      exact body_ret (vs := [(.bool true)]) _ (by kernel_rfl) rfl h
    · replace h := h.2 ((is_or (is_or is_ne is_dec) is_dec).f hc)
      refine w_skip ?_
      refine then_norm ?_
      refine w_seq ?_
      refine w_run [0] ?_
      refine t_done [percents0, (.int .i64 last1), (.bool false), (.bool (!r2)), (.bool ((((r5) != 0) || (decide (last1 < 0))) || (decide (last1 ≥ (len9 : Int))))), .undef, .undef, .undef, .undef, .undef, (.int .i64 0), .undef, .undef, .undef] H7 (by kernel_rfl) ?_
      refine then_norm ?_
      refine w_seq ?_
      refine w_seq ?_
      refine w_run [0] ?_
      refine t_done [percents0, (.int .i64 last1), (.bool false), (.bool (!r2)), (.bool ((((r5) != 0) || (decide (last1 < 0))) || (decide (last1 ≥ (len9 : Int))))), (.int .i64 0), .undef, .undef, .undef, .undef, (.int .i64 0), .undef, .undef, .undef] H7 (by kernel_rfl) ?_
      refine then_norm ?_
      refine w_block ?_
      obtain ⟨J10, k11, h0, h⟩ := h
      refine w_loop (I := fun mI EI HI => ∃ (d13 : AV) (weight14 : Int) (d15 : AV) (d16 : AV) (d17 : AV) (d18 : AV) (sum19 : Int), EI = [percents0, (.int .i64 last1), d13, (.bool (!r2)), (.bool ((((r5) != 0) || (decide (last1 < 0))) || (decide (last1 ≥ (len9 : Int))))), (.int .i64 weight14), d15, d16, d17, d18, (.int .i64 sum19), .undef, .undef, .undef] ∧ J10 mI weight14 sum19 HI) ?_ k11 ⟨_, _, _, _, _, _, _, rfl, h0⟩
      clear h0
      rintro m12 EI H20 ⟨d13, weight14, d15, d16, d17, d18, sum19, rfl, hJ⟩
      replace h := h m12 weight14 sum19 H20 hJ
      clear hJ
      refine w_seq ?_
      refine w_seq ?_
      refine w_run [0, 0, 1, 0] ?_
      obtain ⟨hq, h⟩ := h
      refine t_shl true .no .i64 .i64 1 last1 H20 (by kernel_rfl) hq ?_
      refine t_done [percents0, (.int .i64 last1), d13, (.bool (!r2)), (.bool ((((r5) != 0) || (decide (last1 < 0))) || (decide (last1 ≥ (len9 : Int))))), (.int .i64 weight14), (.bool (decide (weight14 < (IntKind.wrap .i64 (1 * 2 ^ (Min.min (Int.toNat last1) (IntKind.bits .i64))))))), d16, d17, d18, (.int .i64 sum19), .undef, .undef, .undef] H20 (by kernel_rfl) ?_
      refine then_norm ?_
      refine w_cond (t := (decide (weight14 < (IntKind.wrap .i64 (1 * 2 ^ (Min.min (Int.toNat last1) (IntKind.bits .i64))))))) rfl (fun hc => ?_) (fun hc => ?_)
      · replace h := h.1 (is_dec.t hc)
        refine w_skip ?_
        refine then_norm ?_
        refine w_seq ?_
        refine w_block ?_
        refine w_seq ?_
        refine w_run [0, 0, 0, 1, 1, 0, 0, 0, 1, 0, 1] ?_
        refine t_call true nFRunOf [(.int .i64 last1), (.int .i64 weight14)] H20 (by kernel_rfl) h ?_
        clear h
        rintro _ H23 ⟨r21, r22, rfl, h⟩
        refine t_call true nspeculate_Chance [percents0, (.agg [(.int .i64 r21), r22])] H23 (by kernel_rfl) h ?_
        clear h
        rintro _ H28 ⟨r25, r26, r27, rfl, h⟩
        obtain ⟨H30, hb⟩ : ∃ H', Dead1 H28 1 H' := ⟨_, ⟨rfl⟩⟩
        replace h := h H30 hb
        refine t_tomb true 1 (.agg [(.int .i64 0), (.int .i64 0)]) [(.int .i64 0), (.int .i64 0)] H30 H28 (by kernel_rfl) rfl hb ?_
        refine t_upd true 2 0 [(.int .i64 0), (.int .i64 0)] (.agg [(.int .i64 r26), (.int .i64 r27)]) [(.int .i64 r26), (.int .i64 r27)] [(.int .i64 r26), (.int .i64 r27)] H30 (by kernel_rfl) rfl (all_c rfl (all_c rfl all_n)) ⟨rfl, Nat.le_of_ble_eq_true (by kernel_rfl), rfl⟩ ?_
        refine t_done [percents0, (.int .i64 last1), d13, (.bool (!r2)), (.bool ((((r5) != 0) || (decide (last1 < 0))) || (decide (last1 ≥ (len9 : Int))))), (.int .i64 weight14), (.bool (decide (weight14 < (IntKind.wrap .i64 (1 * 2 ^ (Min.min (Int.toNat last1) (IntKind.bits .i64))))))), (.agg [(.int .i64 r26), (.int .i64 r27)]), (.int .i64 r25), d18, (.int .i64 sum19), .undef, .undef, .undef] H30 (by kernel_rfl) ?_
        refine then_norm ?_
        refine w_seq ?_
        refine w_seq ?_
        refine w_run [0, 0, 0, 0, 0, 0, 0] ?_
        refine t_done [percents0, (.int .i64 last1), d13, (.bool (!r2)), (.bool ((((r5) != 0) || (decide (last1 < 0))) || (decide (last1 ≥ (len9 : Int))))), (.int .i64 weight14), (.bool (decide (weight14 < (IntKind.wrap .i64 (1 * 2 ^ (Min.min (Int.toNat last1) (IntKind.bits .i64))))))), (.agg [(.int .i64 r26), (.int .i64 r27)]), (.int .i64 r25), (.bool (((r26) != 0) || (decide (r25 < 0)))), (.int .i64 sum19), .undef, .undef, .undef] H30 (by kernel_rfl) ?_
        refine then_norm ?_
        refine w_cond (t := (((r26) != 0) || (decide (r25 < 0)))) rfl (fun hc => ?_) (fun hc => ?_)
        · replace h := h.1 ((is_or is_ne is_dec).t hc)
          refine w_seq ?_
          refine w_run [0] ?_
          refine t_done [percents0, (.int .i64 last1), (.bool false), (.bool (!r2)), (.bool ((((r5) != 0) || (decide (last1 < 0))) || (decide (last1 ≥ (len9 : Int))))), (.int .i64 weight14), (.bool (decide (weight14 < (IntKind.wrap .i64 (1 * 2 ^ (Min.min (Int.toNat last1) (IntKind.bits .i64))))))), (.agg [(.int .i64 r26), (.int .i64 r27)]), (.int .i64 r25), (.bool (((r26) != 0) || (decide (r25 < 0)))), (.int .i64 sum19), .undef, .undef, .undef] H30 (by kernel_rfl) ?_
          refine then_norm ?_
          refine w_ret ?_
          refine then_ret ?_
          refine block_ret ?_
          refine then_ret ?_
          refine loop_ret ?_
          refine block_ret ?_
          refine then_ret ?_
          exact body_ret (vs := [(.bool false)]) _ (by kernel_rfl) rfl h
        · replace h := h.2 ((is_or is_ne is_dec).f hc)
          refine w_skip ?_
          refine then_norm ?_
          refine w_run [0, 0, 0, 0] ?_
          refine t_done [percents0, (.int .i64 last1), d13, (.bool (!r2)), (.bool ((((r5) != 0) || (decide (last1 < 0))) || (decide (last1 ≥ (len9 : Int))))), (.int .i64 weight14), (.bool (decide (weight14 < (IntKind.wrap .i64 (1 * 2 ^ (Min.min (Int.toNat last1) (IntKind.bits .i64))))))), (.agg [(.int .i64 r26), (.int .i64 r27)]), (.int .i64 r25), (.bool (((r26) != 0) || (decide (r25 < 0)))), (.int .i64 (IntKind.wrap .i64 (sum19 + r25))), .undef, .undef, .undef] H30 (by kernel_rfl) ?_
          refine block_norm ?_
          refine then_norm ?_
          refine w_run [0, 0, 0] ?_
          refine t_done [percents0, (.int .i64 last1), d13, (.bool (!r2)), (.bool ((((r5) != 0) || (decide (last1 < 0))) || (decide (last1 ≥ (len9 : Int))))), (.int .i64 (IntKind.wrap .i64 (weight14 + 1))), (.bool (decide (weight14 < (IntKind.wrap .i64 (1 * 2 ^ (Min.min (Int.toNat last1) (IntKind.bits .i64))))))), (.agg [(.int .i64 r26), (.int .i64 r27)]), (.int .i64 r25), (.bool (((r26) != 0) || (decide (r25 < 0)))), (.int .i64 (IntKind.wrap .i64 (sum19 + r25))), .undef, .undef, .undef] H30 (by kernel_rfl) ?_
          obtain ⟨m', hm, h⟩ := h
          refine loop_norm ⟨m', hm, _, _, _, _, _, _, _, rfl, h⟩
      · replace h := h.2 (is_dec.f hc)
        refine w_exit ?_
        refine then_exit ?_
        refine loop_exit ?_
        refine block_exit ?_
        refine then_norm ?_
        refine w_seq ?_
        refine w_seq ?_
        refine w_run [0] ?_
        refine t_done [percents0, (.int .i64 last1), d13, (.bool (!r2)), (.bool ((((r5) != 0) || (decide (last1 < 0))) || (decide (last1 ≥ (len9 : Int))))), (.int .i64 weight14), (.bool (decide (weight14 < (IntKind.wrap .i64 (1 * 2 ^ (Min.min (Int.toNat last1) (IntKind.bits .i64))))))), d16, d17, d18, (.int .i64 sum19), (.int .i64 0), .undef, .undef] H20 (by kernel_rfl) ?_
        refine then_norm ?_
        refine w_block ?_
        obtain ⟨J32, k33, h0, h⟩ := h
        refine w_loop (I := fun mI EI HI => ∃ (d35 : AV) (sum36 : Int) (i37 : Int) (d38 : AV) (d39 : AV), EI = [percents0, (.int .i64 last1), d35, (.bool (!r2)), (.bool ((((r5) != 0) || (decide (last1 < 0))) || (decide (last1 ≥ (len9 : Int))))), (.int .i64 weight14), (.bool (decide (weight14 < (IntKind.wrap .i64 (1 * 2 ^ (Min.min (Int.toNat last1) (IntKind.bits .i64))))))), d16, d17, d18, (.int .i64 sum36), (.int .i64 i37), d38, d39] ∧ H20 = HI ∧ J32 mI sum36 i37) ?_ k33 ⟨_, _, _, _, _, rfl, rfl, h0⟩
        clear h0
        rintro m34 EI HI ⟨d35, sum36, i37, d38, d39, rfl, rfl, hJ⟩
        replace h := h m34 sum36 i37  hJ
        clear hJ
        refine w_seq ?_
        refine w_seq ?_
        refine w_run [0, 0, 1, 0] ?_
        obtain ⟨len40, hl, h⟩ := h
        refine t_len true percents0 len40 H20 (by kernel_rfl) hl ?_
        refine t_done [percents0, (.int .i64 last1), d35, (.bool (!r2)), (.bool ((((r5) != 0) || (decide (last1 < 0))) || (decide (last1 ≥ (len9 : Int))))), (.int .i64 weight14), (.bool (decide (weight14 < (IntKind.wrap .i64 (1 * 2 ^ (Min.min (Int.toNat last1) (IntKind.bits .i64))))))), d16, d17, d18, (.int .i64 sum36), (.int .i64 i37), (.bool (decide (i37 < (len40 : Int)))), d39] H20 (by kernel_rfl) ?_
        refine then_norm ?_
        refine w_cond (t := (decide (i37 < (len40 : Int)))) rfl (fun hc => ?_) (fun hc => ?_)
        · replace h := h.1 (is_dec.t hc)
          refine w_skip ?_
          refine then_norm ?_
          refine w_seq ?_
          refine w_block ?_
          refine w_seq ?_
          refine w_seq ?_
          refine w_run [0, 1, 0] ?_
          refine t_rem true .no .i64 sum36 100 H20 (by kernel_rfl) (by decide) ?_
          refine t_done [percents0, (.int .i64 last1), d35, (.bool (!r2)), (.bool ((((r5) != 0) || (decide (last1 < 0))) || (decide (last1 ≥ (len9 : Int))))), (.int .i64 weight14), (.bool (decide (weight14 < (IntKind.wrap .i64 (1 * 2 ^ (Min.min (Int.toNat last1) (IntKind.bits .i64))))))), d16, d17, d18, (.int .i64 sum36), (.int .i64 i37), (.bool (decide (i37 < (len40 : Int)))), (.bool (((Int.tmod sum36 100)) != 0))] H20 (by kernel_rfl) ?_
          refine then_norm ?_
          refine w_cond (t := (((Int.tmod sum36 100)) != 0)) rfl (fun hc => ?_) (fun hc => ?_)
          · replace h := h.1 (is_ne.t hc)
            refine w_seq ?_
            refine w_run [0] ?_
            refine t_done [percents0, (.int .i64 last1), (.bool false), (.bool (!r2)), (.bool ((((r5) != 0) || (decide (last1 < 0))) || (decide (last1 ≥ (len9 : Int))))), (.int .i64 weight14), (.bool (decide (weight14 < (IntKind.wrap .i64 (1 * 2 ^ (Min.min (Int.toNat last1) (IntKind.bits .i64))))))), d16, d17, d18, (.int .i64 sum36), (.int .i64 i37), (.bool (decide (i37 < (len40 : Int)))), (.bool (((Int.tmod sum36 100)) != 0))] H20 (by kernel_rfl) ?_
            refine then_norm ?_
            refine w_ret ?_
            refine then_ret ?_
            refine block_ret ?_
            refine then_ret ?_
            refine loop_ret ?_
            refine block_ret ?_
            refine then_ret ?_
            exact body_ret (vs := [(.bool false)]) _ (by kernel_rfl) rfl h
          · replace h := h.2 (is_ne.f hc)
            refine w_skip ?_
            refine then_norm ?_
            refine w_run [0, 1, 0] ?_
            refine t_quo true .no .i64 sum36 100 H20 (by kernel_rfl) (by decide) ?_
            refine t_done [percents0, (.int .i64 last1), d35, (.bool (!r2)), (.bool ((((r5) != 0) || (decide (last1 < 0))) || (decide (last1 ≥ (len9 : Int))))), (.int .i64 weight14), (.bool (decide (weight14 < (IntKind.wrap .i64 (1 * 2 ^ (Min.min (Int.toNat last1) (IntKind.bits .i64))))))), d16, d17, d18, (.int .i64 (IntKind.wrap .i64 (Int.tdiv sum36 100))), (.int .i64 i37), (.bool (decide (i37 < (len40 : Int)))), (.bool (((Int.tmod sum36 100)) != 0))] H20 (by kernel_rfl) ?_
            refine block_norm ?_
            refine then_norm ?_
            refine w_run [0, 0, 0] ?_
            refine t_done [percents0, (.int .i64 last1), d35, (.bool (!r2)), (.bool ((((r5) != 0) || (decide (last1 < 0))) || (decide (last1 ≥ (len9 : Int))))), (.int .i64 weight14), (.bool (decide (weight14 < (IntKind.wrap .i64 (1 * 2 ^ (Min.min (Int.toNat last1) (IntKind.bits .i64))))))), d16, d17, d18, (.int .i64 (IntKind.wrap .i64 (Int.tdiv sum36 100))), (.int .i64 (IntKind.wrap .i64 (i37 + 1))), (.bool (decide (i37 < (len40 : Int)))), (.bool (((Int.tmod sum36 100)) != 0))] H20 (by kernel_rfl) ?_
            obtain ⟨m', hm, h⟩ := h
            refine loop_norm ⟨m', hm, _, _, _, _, _, rfl, rfl, h⟩
        · replace h := h.2 (is_dec.f hc)
          refine w_exit ?_
          refine then_exit ?_
          refine loop_exit ?_
          refine block_exit ?_
          refine then_norm ?_
          refine w_seq ?_
          refine w_run [0, 0, 0] ?_
          refine t_done [percents0, (.int .i64 last1), (.bool ((sum36) == 1)), (.bool (!r2)), (.bool ((((r5) != 0) || (decide (last1 < 0))) || (decide (last1 ≥ (len9 : Int))))), (.int .i64 weight14), (.bool (decide (weight14 < (IntKind.wrap .i64 (1 * 2 ^ (Min.min (Int.toNat last1) (IntKind.bits .i64))))))), d16, d17, d18, (.int .i64 sum36), (.int .i64 i37), (.bool (decide (i37 < (len40 : Int)))), d39] H20 (by kernel_rfl) ?_
          refine then_norm ?_
          refine w_ret ?_
          exact body_ret (vs := [(.bool ((sum36) == 1))]) _ (by kernel_rfl) rfl h

end Go.RM

