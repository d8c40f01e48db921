import Derived.Test.YtlofiiepmehhbaaRmOwn2
import Derived.Test.YtlofiiepmehhbaaMqL
/-
  Package mergequeue: find, reset, remove, add, step.
-/
namespace Go.RM
set_option linter.unusedSimpArgs false
set_option linter.unusedVariables false
set_option maxRecDepth 4000
open Mq

variable {F : Nat → Option RFunc}

/-! ### Places of entries -/

def TestsE (F : Nat → Option RFunc) (fl : Nat) (H : Heap) (g : Nat) (caps : List AV) (l : List Ent) (p : Ent → Bool) : Prop :=
  ∀ (c : List AV) (a : Ent) (H' : Heap), a ∈ l → Keep H.length H H' → tEnt.rel H' c a → Ret F fl g ([.agg c] ++ caps) H' fun v H'' => v = .bool (p a) ∧ Keep H'.length H' H''

abbrev IndexFuncEC (F : Nat → Option RFunc) (f : Nat) : Prop := ∀ {fl H Q v} {l : List Ent} {g caps p}, Arr tEnt H v l → TestsE F fl H g caps l p → (∀ H', Keep H.length H H' → Q (i64 (fidx p l)) H') → Ret F fl f [v, .func g caps] H Q
theorem indexFuncE_c {f : Nat} (hF : F f = some rf_slices_IndexFunc__api_QueueEntry_api_QueueEntry) : IndexFuncEC F f := fun {fl H Q v l g caps p} hv ht hq => by
  refine v_slices_IndexFunc__api_QueueEntry_api_QueueEntry hF _ _ _ ?_
  refine ⟨_, hv.len, fun m v H' => ∃ i : Nat, v = i ∧ i + m = l.length ∧ Keep H.length H H' ∧ ∀ x ∈ l.take i, p x = false, l.length, ⟨0, rfl, by omega, Keep.refl H, by simp⟩, ?_⟩
  rintro m _ H' ⟨i, rfl, hm, hk, hi⟩
  refine ⟨fun hlt => ?_, fun hge => ?_⟩
  · have hil : i < l.length := by omega
    obtain ⟨c, ⟨w, rfl, hw⟩, hget, _⟩ := (hv.keep hk).get hil
    refine ⟨_, _, _, _, _, _, hget, (ht _ l[i] H' (List.getElem_mem hil) hk ⟨w, rfl, hw⟩).mono ?_⟩
    rintro _ H2 ⟨rfl, hk2⟩
    refine ⟨_, rfl, fun he => ?_, fun hne => ⟨m - 1, by omega, i + 1, wsucc hil hv.small, by omega, hk.call hk2, take_step hil (by simpa using hne) hi⟩⟩
    have := hq H2 (hk.call hk2)
    rw [fidx_hit hil he hi] at this; exact this
  · rw [List.take_of_length_le (by omega)] at hi
    have := hq H' hk
    rw [fidx_none hi] at this; exact this

theorem findx1_c {f : Nat} (hF : F f = some rf_mergequeue_queue_findx1) {fl : Nat} {H : Heap} {b : Nat} {c : Int} {cs : List AV} {a : Ent} (hb : Cell H b (i64 c)) (h : tEnt.rel H cs a) :
    Ret F fl f ([.agg cs] ++ [.ptr b 0]) H fun v H'' => v = .bool (a.ch == c) ∧ Keep H.length H H'' := by
  obtain ⟨w, rfl, hw⟩ := h
  refine v_mergequeue_queue_findx1 hF _ _ _ _ _ _ _ ?_
  intro H7 h7
  exact ⟨b, 0, rfl, c, (hb.keep h7.keep).load, rfl, h7.keep⟩
theorem outcomex1_c {f : Nat} (hF : F f = some rf_mergequeue_Outcomex1) {fl : Nat} {H : Heap} {b : Nat} {c : Int} {cs : List AV} {a : Ent} (hb : Cell H b (i64 c)) (h : tEnt.rel H cs a) :
    Ret F fl f ([.agg cs] ++ [.ptr b 0]) H fun v H'' => v = .bool (a.ch == c) ∧ Keep H.length H H'' := by
  obtain ⟨w, rfl, hw⟩ := h
  refine v_mergequeue_Outcomex1 hF _ _ _ _ _ _ _ ?_
  intro H7 h7
  exact ⟨b, 0, rfl, c, (hb.keep h7.keep).load, rfl, h7.keep⟩

def findE (c : Int) (l : List Ent) : Int := fidx (fun e => e.ch == c) l

abbrev FindC (F : Nat → Option RFunc) (f : Nat) : Prop := ∀ {fl H Q qb ve} {l : List Ent} {c : Int}, rload H none qb 0 = some ve → Arr tEnt H ve l → (∀ H', Keep H.length H H' → Q (i64 (findE c l)) H') → Ret F fl f [.ptr qb 0, i64 c] H Q
theorem find_c {f n1 n2 : Nat} (hF : F f = some (rf_mergequeue_queue_find n1 n2)) (h1 : F n1 = some rf_mergequeue_queue_findx1) (h2 : IndexFuncEC F n2) : FindC F f := fun {fl H Q qb ve l c} hl hv hq => by
  refine v_mergequeue_queue_find hF _ _ _ ?_
  intro b3 H4 h4
  refine ⟨_, rload_keep h4.keep hl, h2 (hv.keep h4.keep) (p := fun e => e.ch == c) (fun cs a H' ha hk hr => findx1_c h1 (h4.cell.keep hk) hr) fun H' hk => ⟨_, rfl, hq H' (h4.keep.call hk)⟩⟩

/-! ### reset -/

def blankL (x : AV × Ent) : AV × Ent := (.empty, Mq.blank x.2)
def resetL (i j : Nat) (l : List (AV × Ent)) : List (AV × Ent) := l.mapIdx fun k x => if i ≤ k ∧ k < j then blankL x else x

theorem resetL_len (i j : Nat) (l : List (AV × Ent)) : (resetL i j l).length = l.length := by simp [resetL]
theorem resetL_get {i j : Nat} {l : List (AV × Ent)} {k : Nat} (h : k < l.length) : (resetL i j l)[k]'(by rw [resetL_len]; exact h) = if i ≤ k ∧ k < j then blankL l[k] else l[k] := by simp [resetL]
theorem resetL_set {i j : Nat} {l : List (AV × Ent)} (hij : i ≤ j) (hj : j < l.length) : (resetL i j l).set j (blankL l[j]) = resetL i (j + 1) l := by
  refine List.ext_getElem (by simp [resetL_len]) fun k h1 h2 => ?_
  rw [resetL_len] at h2
  rw [List.getElem_set, resetL_get h2, resetL_get h2]
  by_cases e : j = k
  · subst e; rw [if_pos rfl, if_pos (by omega)]
  · rw [if_neg e]
    by_cases h : i ≤ k ∧ k < j
    · rw [if_pos h, if_pos (by omega)]
    · rw [if_neg h, if_neg (by omega)]
theorem resetL_zero (i : Nat) (l : List (AV × Ent)) : resetL i i l = l := by
  refine List.ext_getElem (resetL_len _ _ _) fun k h1 h2 => ?_
  rw [resetL_get h2, if_neg (by omega)]
theorem resetL_snd {i : Nat} {l : List (AV × Ent)} : (resetL i l.length l).map (·.2) = resetFrom i (l.map (·.2)) := by
  refine List.ext_getElem (by simp [resetL_len, resetFrom]) fun k h1 h2 => ?_
  have hk : k < l.length := by simpa [resetL_len] using h1
  rw [List.getElem_map, resetL_get hk]
  simp only [resetFrom, List.getElem_mapIdx, List.getElem_map]
  by_cases h : i ≤ k
  · rw [if_pos ⟨h, hk⟩, if_pos h]; rfl
  · rw [if_neg (by omega), if_neg h]
theorem resetL_at {i j : Nat} {l : List (AV × Ent)} {x : AV × Ent} (hx : x ∈ resetL i j l) {b : Nat} (hb : At x.1 b) : ∃ y ∈ l, At y.1 b := by
  obtain ⟨k, hk, rfl⟩ := List.getElem_of_mem hx
  rw [resetL_len] at hk
  rw [resetL_get hk] at hb
  split at hb
  · exact absurd hb at_empty
  · exact ⟨_, List.getElem_mem hk, hb⟩

abbrev ResetC (F : Nat → Option RFunc) (f : Nat) : Prop := ∀ {fl H Q n qb w ve vl vr} {l : List (AV × Ent)} {la re : List Int} {i : Nat}, QSt n H qb w ve vl vr l la re → fl ≤ n → i ≤ l.length →
  (∀ H', QSt n H' qb w ve vl vr (resetL i l.length l) la re → Evo n H H' (QFoot qb ve vl vr l) (QFoot qb ve vl vr (resetL i l.length l)) → Q .undef H') → Ret F fl f [.ptr qb 0, i64 (i : Int)] H Q
theorem reset_c {f : Nat} (hF : F f = some rf_mergequeue_queue_reset) : ResetC F f := fun {fl H Q n qb w ve vl vr l la re i} hst hfl hi hq => by
  refine v_mergequeue_queue_reset hF _ _ _ ?_
  have hsm : l.length ≤ 9223372036854775807 := hst.ents.own.small
  refine ⟨fun m k H' => ∃ j : Nat, k = j ∧ i ≤ j ∧ j + m = l.length ∧ EntsH n H' ve (resetL i j l) ∧ H'.length = H.length ∧ ∀ b, ¬ At ve b → H'[b]? = H[b]?, l.length - i, ⟨i, rfl, Nat.le_refl _, by omega, by rw [resetL_zero]; exact hst.ents, rfl, fun _ _ => rfl⟩, ?_⟩
  rintro m _ H' ⟨j, rfl, hij, hm, hE, hlen, hfr⟩
  have hload : rload H' none qb 0 = some ve := (hst.box.frame (hfr qb hst.qe)).load rfl
  refine ⟨ve, hload, _, hE.own.len, fun hlt => ?_, fun hge => ?_⟩
  · rw [resetL_len] at hlt
    have hj : j < l.length := by omega
    have hj' : j < (resetL i j l).length := by rw [resetL_len]; exact hj
    obtain ⟨b, o, h1, h2, h3, h4⟩ := hE.put hj'
    have e0 : (resetL i j l)[j] = l[j] := by rw [resetL_get hj, if_neg (by omega)]
    refine ⟨ve, hload, b, o, h1, _, h3 0 _ rfl, _, h3 1 _ rfl, ?_⟩
    have hx : entC (blankL l[j]) = [i64 (resetL i j l)[j].2.ch, i64 (resetL i j l)[j].2.pr, .bool false, .bool false, .bool false, .empty] := by rw [e0]; rfl
    obtain ⟨H17, a1, a2, a3⟩ := h4 fl 0 6 (.agg [i64 (resetL i j l)[j].2.ch, i64 (resetL i j l)[j].2.pr, .bool false, .bool false, .bool false, .empty]) (blankL l[j]) hfl rfl (by decide) rfl (by rw [hx]; rfl) Own.nil fun b hb => absurd hb at_empty
    refine ⟨H17, a1, m - 1, by omega, j + 1, wsucc hj hsm, by omega, by omega, ?_, by rw [a3.len, hlen], fun c hc => by rw [a3.get c fun e => hc (e ▸ h2), hfr c hc]⟩
    rw [resetL_set hij hj] at a2
    exact a2
  · rw [resetL_len] at hge
    have hj : j = l.length := by omega
    subst hj
    obtain ⟨g1, g2⟩ := hst.entsIn hE (Nat.le_of_eq hlen.symm) (fun b _ hb => hfr b hb) fun x hx b hb => .inl (resetL_at hx hb)
    exact hq H' g1 g2

/-! ### remove -/

abbrev RemoveC (F : Nat → Option RFunc) (f : Nat) : Prop := ∀ {fl H Q n qb w ve vl vr} {l : List (AV × Ent)} {la re : List Int} {i : Nat}, QSt n H qb w ve vl vr l la re → fl ≤ n → i < l.length → l.length ≤ 2 ^ 20 →
  (∀ ve' l' H', QSt n H' qb w ve' vl vr l' la re → l'.map (·.2) = resetFrom i ((l.map (·.2)).eraseIdx i) → Evo n H H' (QFoot qb ve vl vr l) (QFoot qb ve' vl vr l') → Q .undef H') → Ret F fl f [.ptr qb 0, i64 (i : Int)] H Q
theorem eraseIdx_map {α β : Type} (f : α → β) : ∀ (l : List α) (i : Nat), (l.eraseIdx i).map f = (l.map f).eraseIdx i
  | [], _ => rfl
  | _ :: _, 0 => rfl
  | a :: l, i + 1 => by rw [List.eraseIdx_cons_succ, List.map_cons, List.map_cons, List.eraseIdx_cons_succ, eraseIdx_map f l i]
theorem remove_c {f n1 n2 : Nat} (hF : F f = some (rf_mergequeue_queue_remove n1 n2)) (h1 : DeleteEC F n1) (h2 : ResetC F n2) : RemoveC F f := fun {fl H Q n qb w ve vl vr l la re i} hst hfl hi hl hq => by
  refine v_mergequeue_queue_remove hF _ _ _ ?_
  refine ⟨_, hst.entries, ?_⟩
  rw [wsucc hi (by omega)]
  refine h1 hst.ents hi hfl hl fun v' H5 g1 g2 g3 g4 => ?_
  obtain ⟨H7, a1, a2, a3⟩ := hst.entsPut (fl := fl) g1 (Nat.le_of_eq g2.symm) (fun b _ hb => g3 b hb) (fun b hb => .inl (g4 b hb)) (fun x hx b hb => .inl ⟨x, mem_erase hx, hb⟩) hfl
  refine ⟨H7, a1, h2 a2 hfl (by rw [List.length_eraseIdx, if_pos hi]; omega) fun H8 b1 b2 => ⟨rfl, hq v' _ H8 b1 ?_ (a3.trans b2)⟩⟩
  rw [resetL_snd, eraseIdx_map]

/-! ### add -/

abbrev AddC (F : Nat → Option RFunc) (f : Nat) : Prop := ∀ {fl H Q n qb w ve vl vr} {l : List (AV × Ent)} {la re : List Int} {k c p : Int}, QSt n H qb w ve vl vr l la re → fl ≤ n → l.length ≤ 2 ^ 19 →
  (∀ ve' l' r H', QSt n H' qb w ve' vl vr l' la re → addE ⟨l.map (·.2), la, re⟩ c p = (⟨l'.map (·.2), la, re⟩, r) → Evo n H H' (QFoot qb ve vl vr l) (QFoot qb ve' vl vr l') → Q (i64 r) H') → Ret F fl f [.ptr qb 0, .agg [i64 k, i64 c, i64 p]] H Q

theorem findIdx_here {α : Type} {p : α → Bool} {l : List α} {j : Nat} (hj : j ≤ l.length) (hlt : ∀ x ∈ l.take j, p x = false) (hat : ∀ h : j < l.length, p l[j] = true) : l.findIdx p = j := by
  rcases Nat.lt_or_ge j l.length with h | h
  · rw [List.findIdx_eq h]
    refine ⟨hat h, fun k hk => hlt _ ?_⟩
    rw [List.mem_take_iff_getElem]; exact ⟨k, by omega, rfl⟩
  · have : j = l.length := by omega
    subst this
    rw [List.findIdx_eq_length]
    intro x hx
    exact hlt x (by rw [List.take_length]; exact hx)

theorem add_c {f n1 n2 n3 n4 : Nat} (hF : F f = some (rf_mergequeue_queue_add n1 n2 n3 n4)) (h1 : FindC F n1) (h2 : ContainsIC F n2) (h3 : InsertEC F n3) (h4 : ResetC F n4) : AddC F f := fun {fl H Q n qb w ve vl vr l la re k c p} hst hfl hl hq => by
  refine v_mergequeue_queue_add hF _ _ _ _ _ ?_
  intro H5 d5
  have s5 := hst.keep d5.keep
  refine h1 s5.entries s5.ents.arr fun H7 k7 => ⟨_, rfl, ?_⟩
  have s7 := s5.keep k7
  have k07 := d5.keep.call k7
  have same : ∀ r, addE ⟨l.map (·.2), la, re⟩ c p = (⟨l.map (·.2), la, re⟩, r) → Q (i64 r) H7 := fun r hr => hq ve l r H7 s7 hr (hst.evo k07)
  have hkn : (l.map (·.2)).any (fun e => e.ch == c) = decide (findE c (l.map (·.2)) ≥ 0) := (fidx_nonneg _ _).symm
  refine ⟨fun h => same 7 ?_, fun h => ⟨_, s7.landed, h2 s7.la.ints ⟨_, rfl, fun hc => same 7 ?_, fun hc => ⟨_, s7.rejected, h2 s7.re.ints ⟨_, rfl, fun hr => same 7 ?_, fun hr => ⟨_, s7.entries, _, s7.ents.own.len, fun h10 => same 14 ?_, fun h10 => ?_⟩⟩⟩⟩⟩⟩
  · unfold addE; rw [hkn, decide_eq_true h]; rfl
  · unfold addE; simp only [hc, Bool.or_true, Bool.true_or]; rfl
  · unfold addE; simp only [hr, Bool.or_true, Bool.true_or]; rfl
  all_goals
    have hno : ((l.map (·.2)).any (fun e => e.ch == c) || decide (c ∈ la) || decide (c ∈ re)) = false := by
      rw [hkn, decide_eq_false h]
      simp only [Bool.not_eq_true] at hc hr
      rw [hc, hr]; rfl
  · unfold addE
    simp only [hno, Bool.false_eq_true, if_false, List.length_map]
    rw [if_pos (by omega)]
  have hsm : l.length ≤ 9223372036854775807 := hst.ents.own.small
  have fin : ∀ (j : Nat) (b31 : Nat) (H32 : Heap), posE p (l.map (·.2)) = j → j ≤ l.length → NewB H7 6 [i64 c, i64 p, .bool false, .bool false, .bool false, .empty] b31 H32 →
      Ret F fl n3 [ve, i64 (j : Int), .slice b31 0 1 (some 1)] H32 (fun r33 H34 => ∃ H36 : Heap, putA fl H34 qb 0 1 r33 = some H36 ∧ Ret F fl n4 [.ptr qb 0, i64 (j : Int)] H36 (fun v38 H37 => v38 = .undef ∧ Q (i64 0) H37)) := fun j b31 H32 hpos hj h32 => by
    refine h3 s7.ents h32 s7.bn hj hfl (by omega) fun v' H34 g1 g2 g3 g4 => ?_
    have hl32 := h32.keep.len
    obtain ⟨H36, a1, a2, a3⟩ := s7.entsPut (fl := fl) g1 (by omega) (fun b hb hne => by rw [g3 b (by omega) hne, h32.keep.get b hb]) (fun b hb => by
      rcases g4 b hb with h | h
      · exact .inl h
      · exact .inr (by omega)) (fun x hx b hb => by
      rcases List.mem_append.1 hx with hx | hx
      · exact .inl ⟨x, List.mem_of_mem_take hx, hb⟩
      · rcases List.mem_cons.1 hx with rfl | hx
        · exact absurd hb at_empty
        · exact .inl ⟨x, List.mem_of_mem_drop hx, hb⟩) hfl
    have hlen : (l.take j ++ (AV.empty, mk c p) :: l.drop j).length = l.length + 1 := by rw [List.length_append, List.length_take, List.length_cons, List.length_drop]; omega
    refine ⟨H36, a1, h4 a2 hfl (by omega) fun H37 b1 b2 => ⟨rfl, hq v' _ 0 H37 b1 ?_ ((hst.evo k07).trans (a3.trans b2))⟩⟩
    unfold addE
    simp only [hno, Bool.false_eq_true, if_false, List.length_map]
    rw [if_neg (by omega), hpos, resetL_snd, List.map_append, List.map_cons, List.map_take, List.map_drop]
  refine ⟨fun m v => ∃ j : Nat, v = j ∧ j + m = l.length ∧ ∀ x ∈ (l.map (·.2)).take j, decide (x.pr < p) = false, l.length, ⟨0, rfl, by omega, by simp⟩, ?_⟩
  rintro m _ ⟨j, rfl, hm, hj⟩
  refine ⟨_, s7.entries, _, s7.ents.own.len, fun hlt => ?_, fun hge => ?_⟩
  · have hjl : j < l.length := by omega
    have hjl' : j < (l.map (·.2)).length := by simpa using hjl
    obtain ⟨cs, ⟨wv, rfl, hw⟩, _, hcell⟩ := s7.ents.arr.get hjl'
    refine ⟨_, s7.entries, _, hcell 1 _ rfl, fun hge => ⟨m - 1, by omega, j + 1, wsucc hjl hsm, by omega, take_step hjl' (by simpa using hge) hj⟩, fun hlt2 => ⟨_, s7.entries, fun b31 H32 h32 => fin j b31 H32 ?_ (by omega) h32⟩⟩
    exact findIdx_here (by simp; omega) hj fun h => by simpa using hlt2
  · refine ⟨_, s7.entries, fun b31 H32 h32 => fin j b31 H32 ?_ (by omega) h32⟩
    exact findIdx_here (by simp; omega) hj fun h => by simp at h; omega

/-! ### step -/

abbrev StepC (F : Nat → Option RFunc) (f : Nat) : Prop := ∀ {fl H Q n qb w ve vl vr} {l : List (AV × Ent)} {la re : List Int} {x : Ev}, QSt n H qb w ve vl vr l la re → fl ≤ n → l.length ≤ 2 ^ 19 →
  (∀ ve' l' r H', QSt n H' qb w ve' vl vr l' la re → stepE ⟨l.map (·.2), la, re⟩ x = (⟨l'.map (·.2), la, re⟩, r) → Evo n H H' (QFoot qb ve vl vr l) (QFoot qb ve' vl vr l') → Q (i64 r) H') → Ret F fl f [.ptr qb 0, .agg [i64 x.k, i64 x.c, i64 x.p]] H Q

theorem step_c {f n1 n2 n3 : Nat} (hF : F f = some (rf_mergequeue_queue_step n1 n2 n3)) (h1 : AddC F n1) (h2 : FindC F n2) (h3 : RemoveC F n3) : StepC F f := fun {fl H Q n qb w ve vl vr l la re x} hst hfl hl hq => by
  refine v_mergequeue_queue_step hF _ _ _ _ _ ?_
  intro H5 d5
  have s5 := hst.keep d5.keep
  have same : ∀ r, stepE ⟨l.map (·.2), la, re⟩ x = (⟨l.map (·.2), la, re⟩, r) → Q (i64 r) H5 := fun r hr => hq ve l r H5 s5 hr (hst.evo d5.keep)
  refine ⟨fun h => same 4 (by unfold stepE; rw [if_pos h]), fun g1 => ⟨fun h => same 3 ?_, fun g2 => ⟨fun h => same 5 ?_, fun g3 => ⟨fun h => ?_, fun g4 => ?_⟩⟩⟩⟩
  · unfold stepE; rw [if_neg g1, if_pos (by omega)]
  · unfold stepE; rw [if_neg g1, if_neg (by omega), if_pos h]
  · refine h1 s5 hfl hl fun ve' l' r H7 q1 q2 q3 => ⟨_, rfl, hq ve' l' r H7 q1 ?_ ((hst.evo d5.keep).trans q3)⟩
    unfold stepE; rw [if_neg g1, if_neg (by omega), if_neg g3, if_pos h]; exact q2
  · refine h2 s5.entries s5.ents.arr fun H10 k10 => ⟨_, rfl, ?_⟩
    have s10 := s5.keep k10
    have k010 := d5.keep.call k10
    have hst2 : stepE ⟨l.map (·.2), la, re⟩ x = match (l.map (·.2)).findIdx? (fun e => e.ch == x.c) with
      | none => (⟨l.map (·.2), la, re⟩, 6)
      | some i => if x.k = 2 then (⟨resetFrom i ((l.map (·.2)).eraseIdx i), la, re⟩, 0)
        else match (l.map (·.2))[i]? with
          | some e => if e.te then (⟨(l.map (·.2)).set i (resE e x.k), la, re⟩, 0) else (⟨l.map (·.2), la, re⟩, 11)
          | none => (⟨l.map (·.2), la, re⟩, 6) := by
      unfold stepE; rw [if_neg g1, if_neg (by omega), if_neg g3, if_neg g4]; rfl
    unfold findE fidx
    cases hfi : (l.map (·.2)).findIdx? (fun e => e.ch == x.c) with
    | none =>
      rw [hfi] at hst2
      refine ⟨fun _ => hq ve l 6 H10 s10 hst2 (hst.evo k010), fun h => absurd (by decide : (-1 : Int) < 0) h⟩
    | some i =>
      rw [hfi] at hst2
      dsimp only at hst2
      obtain ⟨hi, _⟩ := List.findIdx?_eq_some_iff_findIdx_eq.1 hfi
      have hil : i < l.length := by simpa using hi
      refine ⟨fun h => absurd h (by simp), fun _ => ⟨fun hk2 => ?_, fun hk2 => ?_⟩⟩
      · rw [if_pos hk2] at hst2
        exact h3 s10 hfl hil (by omega) fun ve' l' H12 q1 q2 q3 => ⟨rfl, hq ve' l' 0 H12 q1 (by rw [hst2, q2]) ((hst.evo k010).trans q3)⟩
      · rw [if_neg hk2, List.getElem?_eq_getElem hi] at hst2
        obtain ⟨cs, ⟨wv, rfl, hw⟩, _, hcell⟩ := s10.ents.arr.get hi
        refine ⟨_, s10.entries, _, hcell 2 _ rfl, fun hte => ?_, fun hte => ?_⟩
        · dsimp only at hst2
          rw [if_neg hte] at hst2
          exact hq ve l 11 H10 s10 hst2 (hst.evo k010)
        · have hte' : (l.map fun x : AV × Ent => x.2)[i].te = true := by
            have : ¬¬ (l.map fun x : AV × Ent => x.2)[i].te = true := hte
            simpa using this
          dsimp only at hst2
          rw [if_pos hte'] at hst2
          have e0 : (l.map fun x : AV × Ent => x.2)[i] = l[i].2 := by simp
          rw [e0] at hst2
          obtain ⟨b, o, p1, p2, p3, p4⟩ := s10.ents.put hil
          have hm := List.getElem_mem hil
          obtain ⟨H20, a1, a2, a3⟩ := p4 fl 2 1 (.bool false) (l[i].1, { l[i].2 with te := false }) hfl rfl (by decide) rfl rfl (s10.ents.af l[i] hm) (s10.ents.off l[i] hm)
          have hil2 : i < (l.set i (l[i].1, { l[i].2 with te := false })).length := by simpa using hil
          obtain ⟨b', o', p1', p2', p3', p4'⟩ := a2.put hil2
          rw [p1] at p1'; cases p1'
          have e1 : (l.set i (l[i].1, { l[i].2 with te := false }))[i] = (l[i].1, { l[i].2 with te := false }) := by simp
          rw [e1] at p4'
          have fr1 : Own n H20 1 l[i].1 l[i].2.af.length (ints l[i].2.af) := a2.af (l[i].1, { l[i].2 with te := false }) (List.mem_of_getElem (h := hil2) e1)
          obtain ⟨H21, b1, b2, b3⟩ := p4' fl 3 1 (.bool (x.k == 3)) (l[i].1, { l[i].2 with te := false, pa := x.k == 3 }) hfl rfl (by decide) rfl rfl fr1 (s10.ents.off l[i] hm)
          rw [List.set_set] at b2
          have hil3 : i < (l.set i (l[i].1, { l[i].2 with te := false, pa := x.k == 3 })).length := by simpa using hil
          obtain ⟨b'', o'', p1'', p2'', p3'', p4''⟩ := b2.put hil3
          rw [p1] at p1''; cases p1''
          have e2 : (l.set i (l[i].1, { l[i].2 with te := false, pa := x.k == 3 }))[i] = (l[i].1, { l[i].2 with te := false, pa := x.k == 3 }) := by simp
          rw [e2] at p4''
          have fr2 : Own n H21 1 l[i].1 l[i].2.af.length (ints l[i].2.af) := b2.af (l[i].1, { l[i].2 with te := false, pa := x.k == 3 }) (List.mem_of_getElem (h := hil3) e2)
          obtain ⟨H22, c1, c2, c3⟩ := p4'' fl 4 1 (.bool (x.k == 4)) (l[i].1, resE l[i].2 x.k) hfl rfl (by decide) rfl rfl fr2 (s10.ents.off l[i] hm)
          rw [List.set_set] at c2
          refine ⟨_, s10.entries, b, o, p1, H20, a1, H21, b1, H22, c1, ?_⟩
          obtain ⟨g1, g2⟩ := s10.entsIn c2 (by rw [c3.len, b3.len, a3.len]; exact Nat.le_refl _) (fun y _ hy => by
            have hne : y ≠ b := fun e => hy (e ▸ p2)
            rw [c3.get y hne, b3.get y hne, a3.get y hne]) fun y hy c hc => by
            rcases List.mem_or_eq_of_mem_set hy with hy | rfl
            · exact .inl ⟨y, hy, hc⟩
            · exact .inl ⟨_, hm, hc⟩
          refine hq ve _ 0 H22 g1 ?_ ((hst.evo k010).trans g2)
          rw [hst2, List.map_set]

end Go.RM

/-
  Package mergequeue: slices.DeleteFunc, settle.
-/
namespace Go.RM
set_option linter.unusedSimpArgs false
set_option linter.unusedVariables false
set_option maxRecDepth 4000
open Mq

variable {F : Nat → Option RFunc}

/-- The tail of an owned slice is cleared. -/
theorem Own.clearFrom {n m e : Nat} {H : Heap} {cs z : List AV} {v : AV} {fl i : Nat} (he : 0 < e) (h : Own n H e v m cs) (hi : i ≤ m) (hfl : fl ≤ n) (hz : z.length = e) (hzs : z.all AV.scalar = true) :
    ∃ s H', rslice H e v (some (.int .i64 (i : Int))) none none = some s ∧ clearA fl e z H s = some (.undef, H') ∧ (∃ cs', Own n H' e v m cs' ∧ cs'.take (i * e) = cs.take (i * e)) ∧ H'.length = H.length ∧ (∀ b, ¬ At v b → H'[b]? = H[b]?) := by
  rcases h.out with ⟨rfl, rfl, rfl⟩ | ⟨b, off, lim, k, rfl, h2, h3, h4, h5, h6, h7, ⟨q, h9⟩, h8⟩
  · have hi0 : i = 0 := by omega
    subst hi0
    exact ⟨.empty, H, rfl, rfl, ⟨[], h, rfl⟩, rfl, fun _ _ => rfl⟩
  have m3 : i * e ≤ m * e := Nat.mul_le_mul_right _ hi
  have m4 : (m - i) * e = m * e - i * e := Nat.sub_mul _ _ _
  have hem : (H[b]?).map (·.e) = some e := by rw [h3]; simp [h5]
  have hml : m ≤ lim.getD m := by cases lim with | none => exact Nat.le_refl _ | some c => exact (h8 c rfl).1
  have hzl : (zeros (m - i) z).length = (m - i) * e := by simp [zeros, hz]
  have hzsc : (zeros (m - i) z).all AV.scalar = true := by
    rw [List.all_eq_true] at hzs ⊢
    intro x hx
    unfold zeros at hx
    obtain ⟨l, hl, hxl⟩ := List.mem_flatten.1 hx
    exact hzs x ((List.eq_of_mem_replicate hl) ▸ hxl)
  have hbd : boundOf (some (.int .i64 (i : Int))) 0 = some i := bound_int 0
  refine ⟨.slice b (off + i * e) (m - i) (if lim.isSome then some (lim.getD m - i) else none), ?_⟩
  by_cases h0 : m - i = 0
  · refine ⟨H, ?_, ?_, ⟨cs, h, rfl⟩, rfl, fun _ _ => rfl⟩
    · simp only [rslice, hbd]
      show (if i ≤ m ∧ (m ≤ lim.getD m ∨ _) ∧ lim.getD m ≤ lim.getD m ∧ (i = 0 ∨ _) then some (AV.slice b (off + i * e) (m - i) (if false || lim.isSome then some (lim.getD m - i) else none)) else none) = _
      rw [if_pos ⟨hi, .inl hml, Nat.le_refl _, .inr hem⟩]
      simp
    · show (if m - i = 0 then some (AV.undef, H) else _) = _
      rw [if_pos h0]
  · have hput := rput_ok (fl := fl) (o := off + i * e) (ws := zeros (m - i) z) h3 h4 (by omega) (by rw [hzl]; omega) hzsc
    refine ⟨_, ?_, ?_, ⟨cs.take (i * e) ++ zeros (m - i) z, ⟨h.small, .inr ⟨b, off, lim, { k with cells := splice k.cells (off + i * e) (zeros (m - i) z), clean := false }, rfl, h2, List.getElem?_set_self (get_lt h3), h4, h5, ?_, ?_, ⟨q, ?_⟩, fun c hc => ?_⟩⟩, ?_⟩, by simp, fun b' hne => ?_⟩
    · simp only [rslice, hbd]
      show (if i ≤ m ∧ (m ≤ lim.getD m ∨ _) ∧ lim.getD m ≤ lim.getD m ∧ (i = 0 ∨ _) then some (AV.slice b (off + i * e) (m - i) (if false || lim.isSome then some (lim.getD m - i) else none)) else none) = _
      rw [if_pos ⟨hi, .inl hml, Nat.le_refl _, .inr hem⟩]
      simp
    · show (if m - i = 0 then some (AV.undef, H) else (rput fl H b (off + i * e) (zeros (m - i) z)).map fun H' => (AV.undef, H')) = _
      rw [if_neg h0, hput]; rfl
    · show _ ≤ (splice k.cells (off + i * e) (zeros (m - i) z)).length
      rw [splice_len (by rw [hzl]; omega)]; exact h6
    · show _ = ((splice k.cells (off + i * e) (zeros (m - i) z)).drop off).take (m * e)
      have hcl : cs.length = m * e := by rw [h7, List.length_take, List.length_drop]; omega
      apply List.ext_getElem?
      intro j
      by_cases hj : j < m * e
      · rw [List.getElem?_take_of_lt hj, List.getElem?_drop, splice_get (by rw [hzl]; omega)]
        by_cases h1 : j < i * e
        · rw [if_neg (by omega), List.getElem?_append_left (by rw [List.length_take]; omega), List.getElem?_take_of_lt h1, h7, List.getElem?_take_of_lt hj, List.getElem?_drop]
        · rw [if_pos (by rw [hzl]; omega), List.getElem?_append_right (by rw [List.length_take]; omega)]
          congr 1; rw [List.length_take]; omega
      · rw [List.getElem?_eq_none (by rw [List.length_append, List.length_take, hzl]; omega), List.getElem?_eq_none (by rw [List.length_take]; omega)]
    · show (splice k.cells (off + i * e) (zeros (m - i) z)).length = _
      rw [splice_len (by rw [hzl]; omega)]; exact h9
    · obtain ⟨x1, x2⟩ := h8 c hc
      refine ⟨x1, ?_⟩
      show _ ≤ (splice k.cells (off + i * e) (zeros (m - i) z)).length
      rw [splice_len (by rw [hzl]; omega)]; exact x2
    · have hcl : cs.length = m * e := by rw [h7, List.length_take, List.length_drop]; omega
      rw [List.take_append_of_le_length (by rw [List.length_take]; omega), List.take_take, Nat.min_self]
    · have : b' ≠ b := fun e => hne (by rw [e]; exact at_slice)
      rw [List.getElem?_set_ne (Ne.symm this)]

/-- The head of an owned slice. -/
theorem Own.upto {n m e : Nat} {H : Heap} {cs : List AV} {v : AV} {i : Nat} (h : Own n H e v m cs) (hi : i ≤ m) :
    ∃ w, rslice H e v none (some (.int .i64 (i : Int))) none = some w ∧ Own n H e w i (cs.take (i * e)) ∧ (∀ b, At w b → At v b) := by
  rcases h.out with ⟨rfl, rfl, rfl⟩ | ⟨b, off, lim, k, rfl, h2, h3, h4, h5, h6, h7, ⟨q, h9⟩, h8⟩
  · have hi0 : i = 0 := by omega
    subst hi0
    exact ⟨.empty, rfl, by simpa using h, fun _ h => h⟩
  have m3 : i * e ≤ m * e := Nat.mul_le_mul_right _ hi
  have hml : m ≤ lim.getD m := by cases lim with | none => exact Nat.le_refl _ | some c => exact (h8 c rfl).1
  have hbd : boundOf (some (.int .i64 (i : Int))) m = some i := bound_int m
  have hlim : (if lim.isSome then some (lim.getD m) else none) = lim := by cases lim <;> rfl
  refine ⟨.slice b off i lim, ?_, ⟨by have := h.small; omega, .inr ⟨b, off, lim, k, rfl, h2, h3, h4, h5, by omega, ?_, ⟨q, h9⟩, fun c hc => ?_⟩⟩, fun b' hb' => by have := at_slice.same hb'; subst this; exact at_slice⟩
  · simp only [rslice, hbd]
    show (if 0 ≤ i ∧ (i ≤ lim.getD m ∨ _) ∧ lim.getD m ≤ lim.getD m ∧ ((0 : Nat) = 0 ∨ _) then some (AV.slice b (off + 0 * e) (i - 0) (if false || lim.isSome then some (lim.getD m - 0) else none)) else none) = _
    rw [if_pos ⟨by omega, .inl (by omega), Nat.le_refl _, .inl rfl⟩]
    simp only [Bool.false_or, Nat.sub_zero, hlim, Nat.zero_mul, Nat.add_zero]
  · rw [h7, List.take_take, Nat.min_eq_left m3]
  · obtain ⟨x1, x2⟩ := h8 c hc
    exact ⟨by omega, x2⟩

/-- A number of an owned slice is written. -/
theorem own_putInt {n : Nat} {H : Heap} {l : List Int} {v : AV} (h : Own n H 1 v l.length (ints l)) {i : Nat} (hi : i < l.length) {x : Int} {fl : Nat} (hfl : fl ≤ n) :
    ∃ b o, ptrA 1 v (i : Int) = some (b, o) ∧ At v b ∧ ∃ H', putA fl H b o 1 (i64 x) = some H' ∧ Own n H' 1 v (l.set i x).length (ints (l.set i x)) ∧ KeepX b H H' := by
  obtain ⟨b, o, h1, h2, h3, h4, h5⟩ := h.elem hi
  obtain ⟨H', a1, a2, a3⟩ := h5 fl 0 1 (i64 x) hfl rfl (by decide) rfl
  refine ⟨b, o, h1, h2, H', a1, ?_, a3⟩
  rw [List.length_set]
  have e1 : splice (ints l) (i * 1 + 0) (i64 x).cells = ints (l.set i x) := by
    unfold ints
    rw [List.map_set]
    apply List.ext_getElem?
    intro j
    rw [splice_get (by simp [AV.cells]; omega)]
    by_cases e : j = i
    · subst e
      rw [if_pos (by simp [AV.cells]), List.getElem?_set_self (by simpa using hi)]
      simp [AV.cells]
    · rw [if_neg (by simp [AV.cells]; omega), List.getElem?_set_ne (Ne.symm e)]
  rw [e1] at a2
  exact a2

/-- A function value that tests a number, whatever happens to the slice v. -/
def TestsX (F : Nat → Option RFunc) (fl : Nat) (H : Heap) (v : AV) (g : Nat) (caps : List AV) (p : Int → Bool) : Prop :=
  ∀ (a : Int) (H' : Heap), H.length ≤ H'.length → (∀ b, b < H.length → ¬ At v b → H'[b]? = H[b]?) → Ret F fl g ([i64 a] ++ caps) H' fun r H'' => r = .bool (p a) ∧ Keep H'.length H' H''

theorem fidx_some {p : Int → Bool} {l : List Int} {i : Nat} (h : l.findIdx? p = some i) : i < l.length ∧ ∀ x ∈ l.take i, p x = false := by
  obtain ⟨h1, h2, h3⟩ := List.findIdx?_eq_some_iff_getElem.1 h
  refine ⟨h1, fun x hx => ?_⟩
  obtain ⟨j, hj, rfl⟩ := List.mem_take_iff_getElem.1 hx
  simpa using h3 j (by omega)

abbrev DeleteFuncC (F : Nat → Option RFunc) (f : Nat) : Prop := ∀ {fl H Q n v} {l : List Int} {g caps p}, Own n H 1 v l.length (ints l) → fl ≤ n → n ≤ H.length → TestsX F fl H v g caps p →
  (∀ w H', Own n H' 1 w (l.filter fun x => !p x).length (ints (l.filter fun x => !p x)) → H.length ≤ H'.length → (∀ b, b < H.length → ¬ At v b → H'[b]? = H[b]?) → (∀ b, At w b → At v b) → Q w H') → Ret F fl f [v, .func g caps] H Q
theorem deleteFunc_c {f n1 : Nat} (hF : F f = some (rf_slices_DeleteFunc__int_int n1)) (h1 : IndexFuncIC F n1) : DeleteFuncC F f := fun {fl H Q n v l g caps p} hv hfl hn ht hq => by
  refine v_slices_DeleteFunc__int_int hF _ _ _ ?_
  have hsm : l.length ≤ 9223372036854775807 := hv.small
  refine h1 hv.ints (p := p) (fun c a H' ha hk hr => ?_) fun H4 k4 => ⟨_, rfl, ?_⟩
  · have hr' : [c] = [i64 a] := hr
    cases hr'
    exact ht a H' hk.len fun b hb _ => hk.get b hb
  have hv4 := hv.keep k4
  unfold fidx
  cases hfi : l.findIdx? p with
  | none =>
    have hall := List.findIdx?_eq_none_iff.1 hfi
    have hfil : (l.filter fun x => !p x) = l := List.filter_eq_self.2 fun x hx => by simp [hall x hx]
    rw [hfil] at hq
    exact ⟨fun _ => hq v H4 hv4 k4.len (fun b hb _ => k4.get b hb) fun _ h => h, fun h => absurd rfl h⟩
  | some i0 =>
    obtain ⟨hi0, hpre⟩ := fidx_some hfi
    have hp0 : p l[i0] = true := by
      obtain ⟨_, h2, _⟩ := List.findIdx?_eq_some_iff_getElem.1 hfi; exact h2
    refine ⟨fun h => by simp only at h; omega, fun _ => ?_⟩
    refine ⟨fun m i j H' => ∃ (i' j' : Nat) (c : List Int), i = i' ∧ j = j' ∧ j' + m = l.length ∧ i' ≤ j' ∧ c.length = l.length ∧ c.take i' = (l.take j').filter (fun x => !p x) ∧ c.drop j' = l.drop j' ∧ Own n H' 1 v c.length (ints c) ∧ H.length ≤ H'.length ∧ (∀ b, b < H.length → ¬ At v b → H'[b]? = H[b]?),
      l.length - (i0 + 1), ⟨i0, i0 + 1, l, rfl, wsucc hi0 hsm, by omega, by omega, rfl, ?_, rfl, hv4, k4.len, fun b hb _ => k4.get b hb⟩, ?_⟩
    · rw [List.take_succ_eq_append_getElem hi0, List.filter_append, List.filter_eq_self.2 fun x hx => by simp [hpre x hx]]
      simp [hp0]
    rintro m _ _ H' ⟨i, j, c, rfl, rfl, hm, hij, hcl, ht1, hd1, hO, hlen, hfr⟩
    refine ⟨_, hO.len, fun hlt => ?_, fun hge => ?_⟩
    · rw [hcl] at hlt
      have hj : j < l.length := by omega
      have hcj : j < c.length := by omega
      have ecj : c[j] = l[j] := by
        have h1 : (c.drop j)[0]'(by simp; omega) = (l.drop j)[0]'(by simp; omega) := by simp only [hd1]
        simpa using h1
      have htk : (l.take (j + 1)).filter (fun x => !p x) = (l.take j).filter (fun x => !p x) ++ if p l[j] then [] else [l[j]] := by
        rw [List.take_succ_eq_append_getElem hj, List.filter_append]
        congr 1
        cases h : p l[j] <;> simp [h]
      refine ⟨_, hO.ints.int hcj, ?_⟩
      rw [ecj]
      refine (ht l[j] H' hlen hfr).mono ?_
      rintro _ H19 ⟨rfl, k19⟩
      have hO19 := hO.keep k19
      have hfr19 : ∀ b, b < H.length → ¬ At v b → H19[b]? = H[b]? := fun b hb hne => by rw [k19.get b (by omega), hfr b hb hne]
      refine ⟨_, rfl, fun hnp => ?_, fun hp => ?_⟩
      · have hi : i < c.length := by omega
        obtain ⟨b, o, p1, p2, H23, a1, a2, a3⟩ := own_putInt hO19 hi (x := l[j]) hfl
        refine ⟨b, o, p1, H23, a1, m - 1, by omega, i + 1, j + 1, c.set i l[j], wsucc (by omega : i < l.length) hsm, wsucc hj hsm, by omega, by omega, by simpa using hcl, ?_, ?_, a2, by rw [a3.len]; exact Nat.le_trans hlen k19.len, fun b' hb' hne => by rw [a3.get b' fun e => hne (e ▸ p2), hfr19 b' hb' hne]⟩
        · rw [htk, if_neg hnp, ← ht1, List.take_set, List.take_succ_eq_append_getElem hi, List.set_append_right _ _ (by simp; omega)]
          simp [Nat.min_eq_left (Nat.le_of_lt hi)]
        · have h1 : (c.set i l[j]).drop (j + 1) = c.drop (j + 1) := by rw [List.drop_set]; rw [if_pos (by omega)]
          rw [h1]
          have := congrArg (List.drop 1) hd1
          simpa [List.drop_drop] using this
      · have hp' : p l[j] = true := by simpa using hp
        refine ⟨m - 1, by omega, i, j + 1, c, rfl, wsucc hj hsm, by omega, by omega, hcl, ?_, ?_, hO19, Nat.le_trans hlen k19.len, hfr19⟩
        · rw [htk, if_pos hp', List.append_nil]; exact ht1
        · have := congrArg (List.drop 1) hd1
          simpa [List.drop_drop] using this
    · rw [hcl] at hge
      have hj : j = l.length := by omega
      subst hj
      rw [List.take_length] at ht1
      have hfl' : i = (l.filter fun x => !p x).length := by rw [← ht1, List.length_take]; omega
      obtain ⟨s, H27, b1, b2, ⟨cs', b3, b4⟩, b5, b6⟩ := hO.clearFrom (i := i) (z := [i64 0]) (by decide) (by omega) hfl rfl rfl
      obtain ⟨w, c1, c2, c3⟩ := b3.upto (i := i) (by omega)
      refine ⟨s, b1, H27, b2, w, c1, hq w H27 ?_ (by omega) (fun b hb hne => by rw [b6 b hne, hfr b hb hne]) c3⟩
      rw [b4] at c2
      have e1 : (ints c).take (i * 1) = ints (l.filter fun x => !p x) := by
        unfold ints
        rw [← List.map_take, Nat.mul_one, ht1]
      rw [e1] at c2
      rw [← hfl']; exact c2

end Go.RM
namespace Go.RM
set_option linter.unusedSimpArgs false
set_option linter.unusedVariables false
set_option maxRecDepth 4000
open Mq

namespace Mq
def idle (e : Ent) : Bool := !e.te && !e.pa && !e.fa
def startE (j : Nat) (l : List Ent) : List Ent := l.mapIdx fun k e => if k < j ∧ idle e = true then { e with te := true, af := (l.take k).map (·.ch) } else e
def dropE (c : Int) (e : Ent) : Ent := { e with af := e.af.filter fun x => !(x == c) }
def dropUpto (c : Int) (j : Nat) (l : List Ent) : List Ent := l.mapIdx fun k e => if k < j then dropE c e else e
def settleF : Nat → QS → QS
  | 0, q => q
  | n + 1, q =>
    match q.es with
    | [] => q
    | e :: r =>
      if e.fa then settleF n { es := r.map blank, la := q.la, re := q.re ++ [e.ch] }
      else if e.pa then settleF n { es := r.map (dropE e.ch), la := q.la ++ [e.ch], re := q.re }
      else q
def settleE (w : Int) (q : QS) : QS := let q' := settleF q.es.length q; { q' with es := startE (min w.toNat q'.es.length) q'.es }
end Mq

variable {F : Nat → Option RFunc}

theorem startE_len (j : Nat) (l : List Ent) : (startE j l).length = l.length := by simp [startE]
theorem startE_get {j : Nat} {l : List Ent} {k : Nat} (h : k < l.length) : (startE j l)[k]'(by rw [startE_len]; exact h) = if k < j ∧ idle l[k] = true then { l[k] with te := true, af := (l.take k).map (·.ch) } else l[k] := by simp [startE]
theorem startE_zero (l : List Ent) : startE 0 l = l := by
  refine List.ext_getElem (startE_len _ _) fun k h1 h2 => ?_
  rw [startE_get h2, if_neg (by omega)]
theorem startE_set {j : Nat} {l : List Ent} (hj : j < l.length) {e : Ent} (he : e = if idle l[j] = true then { l[j] with te := true, af := (l.take j).map (·.ch) } else l[j]) : (startE j l).set j e = startE (j + 1) l := by
  refine List.ext_getElem (by simp [startE_len]) fun k h1 h2 => ?_
  rw [startE_len] at h2
  rw [List.getElem_set, startE_get h2, startE_get h2]
  by_cases ek : j = k
  · subst ek
    rw [if_pos rfl, he]
    by_cases hi : idle l[j] = true
    · rw [if_pos hi, if_pos ⟨by omega, hi⟩]
    · rw [if_neg hi, if_neg (by simp [hi])]
  · rw [if_neg ek]
    by_cases h : k < j ∧ idle l[k] = true
    · rw [if_pos h, if_pos ⟨by omega, h.2⟩]
    · rw [if_neg h, if_neg fun hh => h ⟨by omega, hh.2⟩]
theorem startE_same {j : Nat} {l : List Ent} (hj : j < l.length) (hi : ¬ idle l[j] = true) : startE (j + 1) l = startE j l := by
  rw [← startE_set hj (e := l[j]) (by rw [if_neg hi])]
  have : (startE j l)[j]'(by rw [startE_len]; exact hj) = l[j] := by rw [startE_get hj, if_neg (by omega)]
  rw [← this, List.set_getElem_self]

section
variable {n qb : Nat} {H : Heap} {w : Int} {ve vl vr : AV} {l : List (AV × Ent)} {la re : List Int}

/-- A slice apart from the queue is appended to. -/
theorem QSt.apart {H' : Heap} {v : AV} (h : QSt n H qb w ve vl vr l la re) (hlen : H.length ≤ H'.length) (hfr : ∀ b, b < H.length → ¬ At v b → H'[b]? = H[b]?) (hv : ∀ b, At v b → ¬ QFoot qb ve vl vr l b) : QSt n H' qb w ve vl vr l la re :=
  h.frame fun b hb => hfr b (h.foot_lt hb).2 fun ha => hv b ha hb

/-- Tests are started. -/
theorem start_ok {fl nClone : Nat} {Q : AV → Heap → Prop} (hC : CloneIC F nClone) (hst : QSt n H qb w ve vl vr l la re) (hfl : fl ≤ n) (hw : 1 ≤ w ∧ w ≤ 4) (hl : l.length ≤ 2 ^ 19)
    (hq : ∀ l' H', QSt n H' qb w ve vl vr l' la re → l'.map (·.2) = startE (min w.toNat l.length) (l.map (·.2)) → (∀ b, b < H.length → ¬ QFoot qb ve vl vr l b → H'[b]? = H[b]?) → H.length ≤ H'.length → (∀ b, QFoot qb ve vl vr l' b → QFoot qb ve vl vr l b ∨ H.length ≤ b) → Q .undef H') :
    ∃ (e24 : AV), rload H none qb 0 = some e24 ∧ ∃ (e25 : Int), rload H none qb (0 + 3) = some (.int .i64 e25) ∧ ∃ (e26 : AV), rload H none qb 0 = some e26 ∧ ∃ len27 : Nat, lenA e26 = some len27 ∧ ∃ s28 : AV, rslice H 6 e24 none (some (.int .i64 (imin e25 (len27 : Int)))) none = some s28 ∧ ∃ len29 : Nat, lenA s28 = some len29 ∧
      ∃ (J30 : Nat → Int → AV → Heap → Prop) (k31 : Nat), J30 k31 0 .empty H ∧ (∀ (m32 : Nat) (v33 : Int) (ahead38 : AV) (H39 : Heap), J30 m32 v33 ahead38 H39 → ((v33 < (len29 : Int)) → ∃ (e40 : AV), rload H39 none qb 0 = some e40 ∧ ∃ b41 o42 : Nat, ptrA 6 e40 v33 = some (b41, o42) ∧ ∃ (e43 : Bool), rload H39 none b41 (o42 + 2) = some (.bool e43) ∧ ((¬(e43 = true)) → ∃ (e44 : Bool), rload H39 none b41 (o42 + 3) = some (.bool e44) ∧ ((¬(e44 = true)) → ∃ (e45 : Bool), rload H39 none b41 (o42 + 4) = some (.bool e45) ∧
        ((¬(e45 = true)) → Ret F fl nClone [ahead38] H39 (fun r46 H47 => ∃ H49 : Heap, putA fl H47 b41 (o42 + 2) 1 (.bool true) = some H49 ∧ ∃ H50 : Heap, putA fl H49 b41 (o42 + 5) 1 r46 = some H50 ∧ ∃ (e51 : Int), rload H50 none b41 o42 = some (.int .i64 e51) ∧ ∀ (b52 : Nat) (H53 : Heap), NewB H50 1 [(.int .i64 e51)] b52 H53 → ∃ (a54 : AV) (H55 : Heap), appA fl true 1 8 H53 ahead38 (.slice b52 0 1 (some 1)) = some (a54, H55) ∧ ∃ m56 : Nat, m56 < m32 ∧ J30 m56 (IntKind.wrap .i64 (v33 + 1)) a54 H55)) ∧
        (¬(¬(e45 = true)) → ∃ (e57 : Int), rload H39 none b41 o42 = some (.int .i64 e57) ∧ ∀ (b58 : Nat) (H59 : Heap), NewB H39 1 [(.int .i64 e57)] b58 H59 → ∃ (a60 : AV) (H61 : Heap), appA fl true 1 8 H59 ahead38 (.slice b58 0 1 (some 1)) = some (a60, H61) ∧ ∃ m62 : Nat, m62 < m32 ∧ J30 m62 (IntKind.wrap .i64 (v33 + 1)) a60 H61)) ∧
        (¬(¬(e44 = true)) → ∃ (e63 : Int), rload H39 none b41 o42 = some (.int .i64 e63) ∧ ∀ (b64 : Nat) (H65 : Heap), NewB H39 1 [(.int .i64 e63)] b64 H65 → ∃ (a66 : AV) (H67 : Heap), appA fl true 1 8 H65 ahead38 (.slice b64 0 1 (some 1)) = some (a66, H67) ∧ ∃ m68 : Nat, m68 < m32 ∧ J30 m68 (IntKind.wrap .i64 (v33 + 1)) a66 H67)) ∧
        (¬(¬(e43 = true)) → ∃ (e69 : Int), rload H39 none b41 o42 = some (.int .i64 e69) ∧ ∀ (b70 : Nat) (H71 : Heap), NewB H39 1 [(.int .i64 e69)] b70 H71 → ∃ (a72 : AV) (H73 : Heap), appA fl true 1 8 H71 ahead38 (.slice b70 0 1 (some 1)) = some (a72, H73) ∧ ∃ m74 : Nat, m74 < m32 ∧ J30 m74 (IntKind.wrap .i64 (v33 + 1)) a72 H73)) ∧
        (¬(v33 < (len29 : Int)) → Q .undef H39)) := by
  have hsm : l.length ≤ 9223372036854775807 := hst.ents.own.small
  have himin : imin w (l.length : Int) = ((min w.toNat l.length : Nat) : Int) := by
    unfold imin; split <;> omega
  have harr := hst.ents.arr
  obtain ⟨s28, hs1, hs2⟩ := harr.upto (n := min w.toNat l.length) (by simp; omega)
  refine ⟨ve, hst.entries, w, hst.window, ve, hst.entries, l.length, hst.ents.own.len, s28, ?_, _, hs2.len, ?_⟩
  · rw [himin]; exact hs1
  have hlen29 : ((l.map fun x : AV × Ent => x.2).take (min w.toNat l.length)).length = min w.toNat l.length := by simp
  rw [hlen29]
  generalize hcn : min w.toNat l.length = cn
  have hcl : cn ≤ l.length := by omega
  refine ⟨fun m v ahead H' => ∃ (j : Nat) (l' : List (AV × Ent)), v = j ∧ j + m = cn ∧ QSt n H' qb w ve vl vr l' la re ∧ l'.map (·.2) = startE j (l.map (·.2)) ∧ H.length ≤ H'.length ∧ (∀ b, b < H.length → ¬ QFoot qb ve vl vr l b → H'[b]? = H[b]?) ∧ (∀ b, QFoot qb ve vl vr l' b → QFoot qb ve vl vr l b ∨ H.length ≤ b) ∧
      Own n H' 1 ahead (((l.map (·.2)).take j).map (·.ch)).length (ints (((l.map (·.2)).take j).map (·.ch))) ∧ (∀ b, At ahead b → ¬ QFoot qb ve vl vr l' b ∧ H.length ≤ b),
    cn, ⟨0, l, rfl, by omega, hst, (startE_zero _).symm, Nat.le_refl _, fun _ _ _ => rfl, fun b hb => .inl hb, by simpa using Own.nil, fun b hb => absurd hb at_empty⟩, ?_⟩
  rintro m _ ahead H39 ⟨j, l', rfl, hm, hst', hl', hlen, hfr, hsub, hah, hahf⟩
  have hll : l'.length = l.length := by have := congrArg List.length hl'; simpa [startE_len] using this
  refine ⟨fun hlt => ?_, fun hge => ?_⟩
  · have hj : j < l.length := by omega
    have hj' : j < l'.length := by omega
    have hjm : j < (l.map fun x : AV × Ent => x.2).length := by simpa using hj
    have e0 : l'[j].2 = l[j].2 := by
      have h1 : (l'.map fun x : AV × Ent => x.2)[j]'(by simpa using hj') = (l.map fun x : AV × Ent => x.2)[j] := by
        simp only [hl']
        rw [startE_get hjm, if_neg (by omega)]
      simpa using h1
    have hmE : (l.map fun x : AV × Ent => x.2)[j] = l[j].2 := by simp
    have htake : ((l.map fun x : AV × Ent => x.2).take (j + 1)).map (·.ch) = ((l.map fun x : AV × Ent => x.2).take j).map (·.ch) ++ [l[j].2.ch] := by
      rw [List.take_succ_eq_append_getElem hjm, List.map_append, hmE]; rfl
    obtain ⟨b, o, p1, p2, p3, p4⟩ := hst'.ents.put hj'
    -- ahead grows
    have grow : ∀ (l2 : List (AV × Ent)) (H2 : Heap), QSt n H2 qb w ve vl vr l2 la re → l2.map (·.2) = startE (j + 1) (l.map (·.2)) → H.length ≤ H2.length → (∀ b, b < H.length → ¬ QFoot qb ve vl vr l b → H2[b]? = H[b]?) → (∀ b, QFoot qb ve vl vr l2 b → QFoot qb ve vl vr l b ∨ H.length ≤ b) →
        Own n H2 1 ahead (((l.map (·.2)).take j).map (·.ch)).length (ints (((l.map (·.2)).take j).map (·.ch))) → (∀ b, At ahead b → ¬ QFoot qb ve vl vr l2 b) →
        ∀ (b70 : Nat) (H71 : Heap), NewB H2 1 [i64 l[j].2.ch] b70 H71 → ∃ (a72 : AV) (H73 : Heap), appA fl true 1 8 H71 ahead (.slice b70 0 1 (some 1)) = some (a72, H73) ∧ ∃ m74 : Nat, m74 < m ∧
          ∃ (j' : Nat) (l' : List (AV × Ent)), IntKind.wrap .i64 ((j : Int) + 1) = j' ∧ j' + m74 = cn ∧ QSt n H73 qb w ve vl vr l' la re ∧ l'.map (·.2) = startE j' (l.map (·.2)) ∧ H.length ≤ H73.length ∧ (∀ b, b < H.length → ¬ QFoot qb ve vl vr l b → H73[b]? = H[b]?) ∧ (∀ b, QFoot qb ve vl vr l' b → QFoot qb ve vl vr l b ∨ H.length ≤ b) ∧
            Own n H73 1 a72 (((l.map (·.2)).take j').map (·.ch)).length (ints (((l.map (·.2)).take j').map (·.ch))) ∧ (∀ b, At a72 b → ¬ QFoot qb ve vl vr l' b ∧ H.length ≤ b) := fun l2 H2 s2 hl2 hlen2 hfr2 hsub2 hah2 hdis b70 H71 h71 => by
      obtain ⟨v', H73, a1, a2, a3, a4, a5⟩ := own_push hah2 s2.bn h71 hfl (by simp; omega)
      refine ⟨v', H73, a1, m - 1, by omega, j + 1, l2, wsucc hj hsm, by omega, s2.apart a3 a4 hdis, hl2, by omega, fun b hb hne => ?_, hsub2, by rw [htake]; exact a2, fun b hb => ?_⟩
      · rw [a4 b (by omega) fun ha => by have := (hahf b ha).2; omega, hfr2 b hb hne]
      · rcases a5 b hb with h1 | h1
        · exact ⟨hdis b h1, (hahf b h1).2⟩
        · exact ⟨fun hf => by have := (s2.foot_lt hf).2; omega, by omega⟩
    have hskip := fun hid : ¬ idle l[j].2 = true => grow l' H39 hst' (by rw [hl', startE_same hjm (by rw [hmE]; exact hid)]) hlen hfr hsub hah fun b hb => (hahf b hb).1
    refine ⟨ve, hst'.entries, b, o, p1, _, p3 2 _ rfl, fun hte => ⟨_, p3 3 _ rfl, fun hpa => ⟨_, p3 4 _ rfl, fun hfa => ?_, fun hfa => ⟨_, p3 0 _ rfl, ?_⟩⟩, fun hpa => ⟨_, p3 0 _ rfl, ?_⟩⟩, fun hte => ⟨_, p3 0 _ rfl, ?_⟩⟩
    · rw [e0] at hte hpa hfa
      have hid : idle l[j].2 = true := by unfold idle; simp only [Bool.not_eq_true] at hte hpa hfa; rw [hte, hpa, hfa]; rfl
      refine hC n hah.ints hst'.bn (by simp; omega) fun r H47 k47 hr hrb => ?_
      have s47 := hst'.keep k47
      obtain ⟨b2, o2, q1, q2, q3, q4⟩ := s47.ents.put hj'
      rw [p1] at q1; cases q1
      have hm := List.getElem_mem hj'
      obtain ⟨H49, a1, a2, a3⟩ := q4 fl 2 1 (.bool true) (l'[j].1, { l'[j].2 with te := true }) hfl rfl (by decide) rfl rfl (s47.ents.af l'[j] hm) (s47.ents.off l'[j] hm)
      have hj2 : j < (l'.set j (l'[j].1, { l'[j].2 with te := true })).length := by simpa using hj'
      obtain ⟨b3, o3, r1, r2, r3, r4⟩ := a2.put hj2
      rw [p1] at r1; cases r1
      have e1 : (l'.set j (l'[j].1, { l'[j].2 with te := true }))[j] = (l'[j].1, { l'[j].2 with te := true }) := by simp
      rw [e1] at r4
      have hrd : ∀ c, At r c → ¬ At ve c := fun c hc ha => by
        have := hrb c hc
        have := (hst'.ents.at_lt (.inl ha)).2
        omega
      have hr49 := hr.frame (H' := H49) fun c hc => a3.get c fun e => hrd c hc (e ▸ p2)
      obtain ⟨H50, c1, c2, c3⟩ := r4 fl 5 1 r (r, { l'[j].2 with te := true, af := ((l.map fun x : AV × Ent => x.2).take j).map (·.ch) }) hfl (by rw [hr.scal.1]; rfl) (by decide) (by rw [hr.scal.1, List.all_cons, hr.scal.2]; rfl) (by rw [hr.scal.1]; rfl) hr49 hrd
      rw [List.set_set] at c2
      obtain ⟨g1, g2⟩ := hst'.entsIn c2 (by rw [c3.len, a3.len]; exact k47.len) (fun y hy hne => by
        have hne : y ≠ b := fun e => hne (e ▸ p2)
        rw [c3.get y hne, a3.get y hne, k47.get y hy]) fun y hy c hc => by
        rcases List.mem_or_eq_of_mem_set hy with hy | rfl
        · exact .inl ⟨y, hy, hc⟩
        · exact .inr (hrb c hc)
      have hj3 : j < (l'.set j (r, { l'[j].2 with te := true, af := ((l.map fun x : AV × Ent => x.2).take j).map (·.ch) })).length := by simpa using hj'
      obtain ⟨b4, o4, t1, t2, t3, t4⟩ := c2.put hj3
      rw [p1] at t1; cases t1
      have e2 : (l'.set j (r, { l'[j].2 with te := true, af := ((l.map fun x : AV × Ent => x.2).take j).map (·.ch) }))[j] = (r, { l'[j].2 with te := true, af := ((l.map fun x : AV × Ent => x.2).take j).map (·.ch) }) := by simp
      have e3 : ((l'.set j (r, { l'[j].2 with te := true, af := ((l.map fun x : AV × Ent => x.2).take j).map (·.ch) }))[j]).2.ch = l[j].2.ch := by rw [e2]; show l'[j].2.ch = _; rw [e0]
      refine ⟨H49, a1, H50, c1, l[j].2.ch, by rw [← e3]; exact t3 0 _ rfl, ?_⟩
      have hl39 := g2.len
      refine grow _ H50 g1 ?_ (by omega) (fun x hx hne => ?_) (fun x hx => ?_) ?_ fun x hx hf => ?_
      · rw [List.map_set, hl']
        exact startE_set hjm (by rw [hmE, if_pos hid, ← e0])
      · rw [g2.fr x (by omega) fun hf => by
          rcases hsub x hf with h | h
          · exact hne h
          · omega, hfr x hx hne]
      · rcases g2.sub x hx with h | h
        · exact hsub x h
        · exact .inr (by omega)
      · exact hah.frame fun x hx => g2.fr x (hah.at_lt hx).2 (hahf x hx).1
      · rcases g2.sub x hf with h | h
        · exact (hahf x hx).1 h
        · have := (hah.at_lt hx).2; omega
    · rw [e0] at hfa ⊢; exact hskip (by unfold idle; simp only [Bool.not_eq_true, Bool.not_eq_false] at hfa; rw [hfa]; simp)
    · rw [e0] at hpa ⊢; exact hskip (by unfold idle; simp only [Bool.not_eq_true, Bool.not_eq_false] at hpa; rw [hpa]; simp)
    · rw [e0] at hte ⊢; exact hskip (by unfold idle; simp only [Bool.not_eq_true, Bool.not_eq_false] at hte; rw [hte]; simp)
  · have hj : j = cn := by omega
    subst hj
    exact hq l' H39 hst' (by rw [hl', hcn]) hfr hlen hsub


theorem dropUpto_len (c : Int) (j : Nat) (l : List Ent) : (dropUpto c j l).length = l.length := by simp [dropUpto]
theorem dropUpto_get {c : Int} {j : Nat} {l : List Ent} {k : Nat} (h : k < l.length) : (dropUpto c j l)[k]'(by rw [dropUpto_len]; exact h) = if k < j then dropE c l[k] else l[k] := by simp [dropUpto]
theorem dropUpto_zero (c : Int) (l : List Ent) : dropUpto c 0 l = l := by
  refine List.ext_getElem (dropUpto_len _ _ _) fun k h1 h2 => ?_
  rw [dropUpto_get h2, if_neg (by omega)]
theorem dropUpto_all (c : Int) (l : List Ent) : dropUpto c l.length l = l.map (dropE c) := by
  refine List.ext_getElem (by simp [dropUpto_len]) fun k h1 h2 => ?_
  rw [List.length_map] at h2
  rw [dropUpto_get h2, if_pos h2, List.getElem_map]
theorem dropUpto_set {c : Int} {j : Nat} {l : List Ent} (hj : j < l.length) : (dropUpto c j l).set j (dropE c l[j]) = dropUpto c (j + 1) l := by
  refine List.ext_getElem (by simp [dropUpto_len]) fun k h1 h2 => ?_
  rw [dropUpto_len] at h2
  rw [List.getElem_set, dropUpto_get h2, dropUpto_get h2]
  by_cases ek : j = k
  · subst ek; rw [if_pos rfl, if_pos (by omega)]
  · rw [if_neg ek]
    by_cases h : k < j
    · rw [if_pos h, if_pos (by omega)]
    · rw [if_neg h, if_neg (by omega)]

theorem settlex1_c {f : Nat} (hF : F f = some rf_mergequeue_queue_settlex1) {fl : Nat} {H : Heap} {b : Nat} {c : Int} (hb : rload H none b 0 = some (i64 c)) (a : Int) :
    Ret F fl f ([i64 a] ++ [.ptr b 0]) H fun v H'' => v = .bool (a == c) ∧ Keep H.length H H'' :=
  v_mergequeue_queue_settlex1 hF _ _ ⟨b, 0, rfl, c, hb, rfl, Keep.refl H⟩

/-- A change that has landed is no longer waited for. -/
theorem drop_ok {fl nClone nDel nx1 b134 : Nat} {cs : List AV} {c : Int} {P : Heap → Prop} (hC : CloneIC F nClone) (hD : DeleteFuncC F nDel) (hX : F nx1 = some rf_mergequeue_queue_settlex1) (hst : QSt n H qb w ve vl vr l la re) (hfl : fl ≤ n) (hl : l.length ≤ 2 ^ 19) (haf : ∀ x ∈ l, x.2.af.length ≤ 2 ^ 19)
    (hbox : Box H b134 cs) (hcs : cs[0]? = some (i64 c)) (hbf : ¬ QFoot qb ve vl vr l b134)
    (hq : ∀ l' H', QSt n H' qb w ve vl vr l' la re → l'.map (·.2) = (l.map (·.2)).map (dropE c) → Evo n H H' (QFoot qb ve vl vr l) (QFoot qb ve vl vr l') → P H') :
    ∃ (e158 : AV), rload H none qb 0 = some e158 ∧ ∃ len159 : Nat, lenA e158 = some len159 ∧ ∃ (J160 : Nat → Int → Heap → Prop) (k161 : Nat), J160 k161 0 H ∧ (∀ (m162 : Nat) (v163 : Int) (H167 : Heap), J160 m162 v163 H167 → ((v163 < (len159 : Int)) → ∃ (e168 : AV), rload H167 none qb 0 = some e168 ∧ ∃ b169 o170 : Nat, ptrA 6 e168 v163 = some (b169, o170) ∧ ∃ (e171 : AV), rload H167 none b169 (o170 + 5) = some e171 ∧
      Ret F fl nClone [e171] H167 (fun r172 H173 => Ret F fl nDel [r172, (.func nx1 [(.ptr b134 0)])] H173 (fun r175 H176 => ∃ H178 : Heap, putA fl H176 b169 (o170 + 5) 1 r175 = some H178 ∧ ∃ m179 : Nat, m179 < m162 ∧ J160 m179 (IntKind.wrap .i64 (v163 + 1)) H178))) ∧ (¬(v163 < (len159 : Int)) → P H167)) := by
  have hsm : l.length ≤ 9223372036854775807 := hst.ents.own.small
  refine ⟨ve, hst.entries, l.length, hst.ents.own.len, ?_⟩
  refine ⟨fun m v H' => ∃ (j : Nat) (l' : List (AV × Ent)), v = j ∧ j + m = l.length ∧ QSt n H' qb w ve vl vr l' la re ∧ l'.map (·.2) = dropUpto c j (l.map (·.2)) ∧ Evo n H H' (QFoot qb ve vl vr l) (QFoot qb ve vl vr l'),
    l.length, ⟨0, l, rfl, by omega, hst, (dropUpto_zero _ _).symm, hst.evo (Keep.refl H)⟩, ?_⟩
  rintro m _ H167 ⟨j, l', rfl, hm, hst', hl', hevo⟩
  have hll : l'.length = l.length := by have := congrArg List.length hl'; simpa [dropUpto_len] using this
  refine ⟨fun hlt => ?_, fun hge => ?_⟩
  · have hj : j < l.length := by omega
    have hj' : j < l'.length := by omega
    have hjm : j < (l.map fun x : AV × Ent => x.2).length := by simpa using hj
    have e0 : l'[j].2 = l[j].2 := by
      have h1 : (l'.map fun x : AV × Ent => x.2)[j]'(by simpa using hj') = (l.map fun x : AV × Ent => x.2)[j] := by
        simp only [hl']
        rw [dropUpto_get hjm, if_neg (by omega)]
      simpa using h1
    have hmE : (l.map fun x : AV × Ent => x.2)[j] = l[j].2 := by simp
    have hm' := List.getElem_mem hj'
    obtain ⟨b, o, p1, p2, p3, p4⟩ := hst'.ents.put hj'
    have hbox' : Box H167 b134 cs := hbox.frame (hevo.fr b134 hbox.lt hbf)
    refine ⟨ve, hst'.entries, b, o, p1, _, p3 5 _ rfl, hC n (hst'.ents.af l'[j] hm').ints hst'.bn (by rw [e0]; have := haf l[j] (List.getElem_mem hj); omega) fun r H173 k173 hr hrb => ?_⟩
    have hb173 : Box H173 b134 cs := hbox'.frame (k173.get b134 hbox'.lt)
    refine hD (p := fun x => x == c) hr hfl (Nat.le_trans hst'.bn k173.len) (fun a H' hlen hfr => ?_) fun w' H176 g1 g2 g3 g4 => ?_
    · refine settlex1_c hX ?_ a
      have hb' : Box H' b134 cs := hb173.frame (hfr b134 hb173.lt fun ha => by have := hrb b134 ha; have := hbox'.lt; omega)
      exact hb'.load hcs
    have k176 : Keep H167.length H167 H176 := ⟨Nat.le_refl _, Nat.le_trans k173.len g2, fun x hx => by
      rw [g3 x (Nat.lt_of_lt_of_le hx k173.len) fun ha => by have := hrb x ha; omega, k173.get x hx]⟩
    have s176 := hst'.keep k176
    obtain ⟨b2, o2, q1, q2, q3, q4⟩ := s176.ents.put hj'
    rw [p1] at q1; cases q1
    have hwd : ∀ x, At w' x → H167.length ≤ x := fun x hx => hrb x (g4 x hx)
    have hwve : ∀ x, At w' x → ¬ At ve x := fun x hx ha => by
      have := hwd x hx
      have := (hst'.ents.at_lt (.inl ha)).2
      omega
    obtain ⟨H178, c1, c2, c3⟩ := q4 fl 5 1 w' (w', dropE c l'[j].2) hfl (by rw [g1.scal.1]; rfl) (by decide) (by rw [g1.scal.1, List.all_cons, g1.scal.2]; rfl) (by rw [g1.scal.1]; rfl) g1 hwve
    obtain ⟨t1, t2⟩ := hst'.entsIn c2 (by rw [c3.len]; exact k176.len) (fun y hy hne => by
      rw [c3.get y fun e => hne (e ▸ p2), k176.get y hy]) fun y hy x hx => by
      rcases List.mem_or_eq_of_mem_set hy with hy | rfl
      · exact .inl ⟨y, hy, hx⟩
      · exact .inr (hwd x hx)
    refine ⟨H178, c1, m - 1, by omega, j + 1, _, wsucc hj hsm, by omega, t1, ?_, hevo.trans t2⟩
    rw [List.map_set, hl', e0, ← hmE]
    exact dropUpto_set hjm
  · have hj : j = l.length := by omega
    subst hj
    refine hq l' H167 hst' ?_ hevo
    rw [hl', ← dropUpto_all, List.length_map]

end
end Go.RM

/-
  Package mergequeue: settle, Run, Outcome.
-/
namespace Go.RM
set_option linter.unusedSimpArgs false
set_option linter.unusedVariables false
set_option maxRecDepth 4000
open Mq

variable {F : Nat → Option RFunc}

structure Sizes (l : List (AV × Ent)) (la re : List Int) : Prop where
  es : l.length ≤ 2 ^ 17
  af : ∀ x ∈ l, x.2.af.length ≤ 2 ^ 17
  la : la.length + l.length ≤ 2 ^ 18
  re : re.length + l.length ≤ 2 ^ 18

abbrev SettleC (F : Nat → Option RFunc) (f : Nat) : Prop := ∀ {fl H Q n qb w ve vl vr} {l : List (AV × Ent)} {la re : List Int}, QSt n H qb w ve vl vr l la re → fl ≤ n → 1 ≤ w ∧ w ≤ 4 → Sizes l la re →
  (∀ ve' vl' vr' l' la' re' H', QSt n H' qb w ve' vl' vr' l' la' re' → settleE w ⟨l.map (·.2), la, re⟩ = ⟨l'.map (·.2), la', re'⟩ → Keep n H H' → Q .undef H') → Ret F fl f [.ptr qb 0] H Q

theorem map_resetFrom (l : List Ent) : resetFrom 0 l = l.map Mq.blank := by
  refine List.ext_getElem (by simp [resetFrom]) fun k h1 h2 => ?_
  simp [resetFrom]

theorem settle_c {f n1 n2 n3 n4 : Nat} (hF : F f = some (rf_mergequeue_queue_settle n1 n2 n3 n4)) (h1 : RemoveC F n1) (h2 : CloneIC F n2) (h3 : F n3 = some rf_mergequeue_queue_settlex1) (h4 : DeleteFuncC F n4) : SettleC F f := fun {fl H Q n qb w ve vl vr l la re} hst hfl hw hsz hq => by
  refine v_mergequeue_queue_settle hF _ _ ?_
  refine ⟨fun m H' => ∃ ve' vl' vr' l' la' re', m = l'.length ∧ QSt n H' qb w ve' vl' vr' l' la' re' ∧ Evo n H H' (QFoot qb ve vl vr l) (QFoot qb ve' vl' vr' l') ∧ settleF l'.length ⟨l'.map (·.2), la', re'⟩ = settleF l.length ⟨l.map (·.2), la, re⟩ ∧ Sizes l' la' re',
    l.length, ⟨ve, vl, vr, l, la, re, rfl, hst, hst.evo (Keep.refl H), rfl, hsz⟩, ?_⟩
  rintro m H13 ⟨ve', vl', vr', l', la', re', rfl, hst', hevo, hF', hsz'⟩
  refine ⟨∃ x r, l' = x :: r ∧ (x.2.pa = true ∨ x.2.fa = true), ?_, ?_⟩
  · -- tests are started
    have fin : settleF l'.length ⟨l'.map (·.2), la', re'⟩ = ⟨l'.map (·.2), la', re'⟩ → _ := fun hstop => start_ok (Q := Q) h2 hst' hfl hw (by have := hsz'.es; omega) fun l2 H39 s2 e2 hfr hlen hsub => hq ve' vl' vr' l2 la' re' H39 s2 (by
      unfold settleE
      simp only [List.length_map]
      rw [← hF', hstop, e2]
      simp) (hevo.trans ⟨hst'.bn, hlen, fun b hb => (hst'.foot_lt hb).1, hfr, hsub⟩).keep
    refine ⟨ve', hst'.entries, _, hst'.ents.own.len, fun hpos => ?_, fun hneg => ?_⟩
    · match l', hst', hsz', hF', hevo, fin, hpos with
      | [], _, _, _, _, _, hpos => exact absurd hpos (by simp)
      | x :: r, hst', hsz', hF', hevo, fin, hpos =>
        obtain ⟨cs, ⟨wv, rfl, _⟩, _, hcell⟩ := hst'.ents.arr.get (i := 0) (by simp)
        refine ⟨ve', hst'.entries, x.2.pa, hcell 3 _ rfl, fun hpa => ⟨x, r, rfl, .inl hpa⟩, fun hpa => ⟨ve', hst'.entries, x.2.fa, hcell 4 _ rfl, fun hfa => ⟨x, r, rfl, .inr hfa⟩, fun hfa => fin ?_⟩⟩
        simp only [List.length_cons, List.map_cons, settleF]
        rw [if_neg hfa, if_neg hpa]
    · have h0 : l'.length = 0 := by omega
      obtain rfl := List.eq_nil_of_length_eq_zero h0
      exact fin rfl
  · rintro ⟨x, r, rfl, hx⟩
    obtain ⟨cs, ⟨wv, rfl, hints⟩, hget, _⟩ := hst'.ents.arr.get (i := 0) (by simp)
    refine ⟨ve', hst'.entries, x.2.ch, x.2.pr, x.2.te, x.2.pa, x.2.fa, wv, hget, ?_⟩
    intro b134 H135 h134
    have hwv : Scal wv := hints.scal
    obtain ⟨H136, a1, a2, a3⟩ := h134.box.put (fl := fl) (o := 0) (n := 6) (v := .agg (entC (wv, x.2))) rfl (by decide) (by
      show (true && (true && (true && (true && (true && (wv.scalar && true)))))) = true
      rw [hwv.2]; rfl) (by have := h134.b_eq; have := hst'.bn; omega)
    have a2 : Box H136 b134 (entC (wv, x.2)) := a2
    have k136 : Keep H13.length H13 H136 := ⟨Nat.le_refl _, by rw [a3.len]; exact h134.keep.len, fun c hc => by rw [a3.get c (by have := h134.b_eq; omega), h134.keep.get c hc]⟩
    have s136 := hst'.keep k136
    have hge : H13.length ≤ b134 := Nat.le_of_eq h134.b_eq.symm
    have hbf : ∀ {ve vl vr l}, (∀ b, QFoot qb ve vl vr l b → b < H13.length) → ¬ QFoot qb ve vl vr l b134 := fun h hb => by have := h _ hb; omega
    have hb0 := hbf fun b hb => (hst'.foot_lt hb).2
    refine ⟨H136, a1, x.2.fa, a2.load rfl, fun hfa => ?_, fun hfa => ?_⟩
    · -- rejected
      refine h1 (i := 0) s136 hfl (by simp) (by have := hsz'.es; omega) fun ve2 l2 H138 s2 e2 ev2 => ⟨rfl, vr', s2.rejected, x.2.ch, ?_, fun b142 H143 h142 => ?_⟩
      · exact (a2.frame (ev2.fr b134 a2.lt hb0)).load rfl
      · obtain ⟨v', H145, c1, c2, c3, c4, c5⟩ := own_push s2.re s2.bn h142 hfl (by have := hsz'.re; simp at this; omega)
        obtain ⟨H146, d1, d2, d3⟩ := s2.rejPut c2 c3 c4 c5 hfl
        have hl2 : l2.length = r.length := by have := congrArg List.length e2; simpa [resetFrom] using this
        refine ⟨v', H145, c1, H146, d1, l2.length, by simp; omega, ve2, vl', v', l2, la', re' ++ [x.2.ch], rfl, d2, (hevo.trans (hst'.evo k136)).trans (ev2.trans d3), ?_, ?_⟩
        · rw [← hF', e2]
          simp only [List.length_cons, List.map_cons, settleF, List.eraseIdx_zero, List.tail_cons]
          rw [if_pos hfa, map_resetFrom, hl2]
        · refine ⟨by have := hsz'.es; simp at this; omega, fun y hy => ?_, by have := hsz'.la; simp at this; omega, by have := hsz'.re; simp at this ⊢; omega⟩
          obtain ⟨k, hk, rfl⟩ := List.getElem_of_mem hy
          have e3 : (l2.map fun y : AV × Ent => y.2)[k]'(by simpa using hk) = l2[k].2 := by simp
          rw [← e3]
          simp only [e2]
          simp [resetFrom]
    · -- landed
      have hpa : x.2.pa = true := hx.resolve_right hfa
      obtain ⟨w1, t1, t2, t3, t4⟩ := Own.tail (by decide) s136.ents.own (m := r.length)
      have hE : EntsH n H136 w1 r := ⟨by
          have e1 : ((x :: r).map entC).flatten.drop 6 = (r.map entC).flatten := by rw [List.map_cons, List.flatten_cons, List.drop_append_of_le_length (by rw [entC_len]; exact Nat.le_refl _), List.drop_of_length_le (by rw [entC_len]; exact Nat.le_refl _), List.nil_append]
          rw [e1] at t2; exact t2, t4 s136.ents.nolim, fun y hy => s136.ents.af y (List.mem_cons_of_mem _ hy), fun y hy b hb ha => s136.ents.off y (List.mem_cons_of_mem _ hy) b hb (t3 b ha)⟩
      obtain ⟨H150, u1, u2, u3⟩ := s136.entsPut (fl := fl) hE (Nat.le_refl _) (fun _ _ _ => rfl) (fun b hb => .inl (t3 b hb)) (fun y hy b hb => .inl ⟨y, List.mem_cons_of_mem _ hy, hb⟩) hfl
      have box150 : Box H150 b134 (entC (wv, x.2)) := a2.frame (u3.fr b134 a2.lt hb0)
      refine ⟨ve', s136.entries, w1, t1, H150, u1, vl', u2.landed, x.2.ch, box150.load rfl, fun b153 H154 h153 => ?_⟩
      obtain ⟨v', H156, c1, c2, c3, c4, c5⟩ := own_push u2.la u2.bn h153 hfl (by have := hsz'.la; simp at this; omega)
      obtain ⟨H157, d1, d2, d3⟩ := u2.landPut c2 c3 c4 c5 hfl
      have hb150 : ¬ QFoot qb w1 vl' vr' r b134 := fun hb => by
        rcases u3.sub b134 hb with h | h
        · exact hb0 h
        · have := a2.lt; omega
      have box157 : Box H157 b134 (entC (wv, x.2)) := box150.frame (d3.fr b134 box150.lt hb150)
      have hb157 : ¬ QFoot qb w1 v' vr' r b134 := fun hb => by
        rcases d3.sub b134 hb with h | h
        · exact hb150 h
        · have := box150.lt; omega
      refine ⟨v', H156, c1, H157, d1, drop_ok (c := x.2.ch) h2 h4 h3 d2 hfl (by have := hsz'.es; simp at this; omega) (fun y hy => by have := hsz'.af y (List.mem_cons_of_mem _ hy); omega) box157 rfl hb157 fun l2 H167 s2 e2 ev2 => ?_⟩
      have hl2 : l2.length = r.length := by have := congrArg List.length e2; simpa using this
      refine ⟨l2.length, by simp; omega, w1, v', vr', l2, la' ++ [x.2.ch], re', rfl, s2, (hevo.trans (hst'.evo k136)).trans ((u3.trans d3).trans ev2), ?_, ?_⟩
      · rw [← hF', e2]
        simp only [List.length_cons, List.map_cons, settleF]
        rw [if_neg hfa, if_pos hpa, hl2]
      · refine ⟨by have := hsz'.es; simp at this; omega, fun y hy => ?_, by have := hsz'.la; simp at this ⊢; omega, by have := hsz'.re; simp at this; omega⟩
        obtain ⟨k, hk, rfl⟩ := List.getElem_of_mem hy
        have e3 : (l2.map fun y : AV × Ent => y.2)[k]'(by simpa using hk) = l2[k].2 := by simp
        rw [← e3]
        simp only [e2]
        simp only [List.getElem_map, dropE]
        refine Nat.le_trans (List.length_filter_le _ _) (hsz'.af _ (List.mem_cons_of_mem _ (List.getElem_mem _)))

end Go.RM
namespace Go.RM
set_option linter.unusedSimpArgs false
set_option linter.unusedVariables false
set_option maxRecDepth 4000
open Mq

namespace Mq
def q0 : QS := ⟨[], [], []⟩
def runE (w : Int) : List Ev → Int → QS → QS × Int × Int
  | [], _, q => (q, 0, 0)
  | x :: r, i, q => if (stepE q x).2 ≠ 0 then (q0, (stepE q x).2, i) else runE w r (i + 1) (settleE w (stepE q x).1)
def runQ (w : Int) (evs : List Ev) : QS × Int × Int :=
  if w < 1 ∨ w > 4 then (q0, 3, -2) else if evs.length > 40 then (q0, 2, -1) else runE w evs 0 q0

/-- How long the lists are. -/
structure Small (q : QS) (j : Nat) : Prop where
  n : q.es.length + q.la.length + q.re.length ≤ j
  af : ∀ e ∈ q.es, e.af.length ≤ 40
end Mq

variable {F : Nat → Option RFunc}

theorem resetFrom_len (i : Nat) (l : List Ent) : (resetFrom i l).length = l.length := by simp [resetFrom]
theorem resetFrom_af {i : Nat} {l : List Ent} (h : ∀ e ∈ l, e.af.length ≤ 40) : ∀ e ∈ resetFrom i l, e.af.length ≤ 40 := by
  intro e he
  obtain ⟨k, hk, rfl⟩ := List.getElem_of_mem he
  simp only [resetFrom, List.getElem_mapIdx]
  split
  · exact Nat.zero_le _
  · exact h _ (List.getElem_mem _)

theorem addE_small {q : QS} {j : Nat} (h : Small q j) (c p : Int) : Small (addE q c p).1 (j + 1) := by
  unfold addE
  split
  · exact ⟨by have := h.n; simp only; omega, h.af⟩
  · split
    · exact ⟨by have := h.n; simp only; omega, h.af⟩
    · refine ⟨?_, ?_⟩
      · have := h.n
        simp only [resetFrom_len, List.length_append, List.length_take, List.length_cons, List.length_drop]
        omega
      · refine resetFrom_af fun e he => ?_
        rcases List.mem_append.1 he with he | he
        · exact h.af e (List.mem_of_mem_take he)
        · rcases List.mem_cons.1 he with rfl | he
          · exact Nat.zero_le _
          · exact h.af e (List.mem_of_mem_drop he)
theorem stepE_small {q : QS} {j : Nat} (h : Small q j) (x : Ev) : Small (stepE q x).1 (j + 1) := by
  have h0 : Small q (j + 1) := ⟨by have := h.n; omega, h.af⟩
  unfold stepE
  split
  · exact h0
  split
  · exact h0
  split
  · exact h0
  split
  · exact addE_small h _ _
  split
  · exact h0
  rename_i i hi
  split
  · refine ⟨?_, resetFrom_af fun e he => h.af e (mem_erase he)⟩
    have := h.n
    have h2 := List.length_eraseIdx_le q.es i
    simp only [resetFrom_len]; omega
  · split
    · split
      · refine ⟨by have := h.n; simp only [List.length_set]; omega, fun e he => ?_⟩
        rcases List.mem_or_eq_of_mem_set he with he | rfl
        · exact h.af e he
        · rename_i e0 hg _
          exact h.af e0 (List.mem_of_getElem? hg)
      · exact h0
    · exact h0
theorem settleF_small : ∀ (n : Nat) {q : QS} {j : Nat}, Small q j → Small (settleF n q) j
  | 0, _, _, h => h
  | n + 1, ⟨[], la, re⟩, j, h => h
  | n + 1, ⟨e :: r, la, re⟩, j, h => by
    simp only [settleF]
    split
    · refine settleF_small n ⟨?_, fun x hx => ?_⟩
      · have := h.n; simp at this ⊢; omega
      · obtain ⟨y, hy, rfl⟩ := List.mem_map.1 hx; exact Nat.zero_le _
    · split
      · refine settleF_small n ⟨?_, fun x hx => ?_⟩
        · have := h.n; simp at this ⊢; omega
        · obtain ⟨y, hy, rfl⟩ := List.mem_map.1 hx
          exact Nat.le_trans (List.length_filter_le _ _) (h.af y (List.mem_cons_of_mem _ hy))
      · exact h
theorem settleE_small {w : Int} {q : QS} {j : Nat} (h : Small q j) (hj : j ≤ 40) : Small (settleE w q) j := by
  have h1 := settleF_small q.es.length h
  unfold settleE
  refine ⟨by have := h1.n; simp only [startE_len]; exact this, fun e he => ?_⟩
  obtain ⟨k, hk, rfl⟩ := List.getElem_of_mem he
  rw [startE_len] at hk
  rw [startE_get hk]
  split
  · have := h1.n
    simp only [List.length_map, List.length_take]; omega
  · exact h1.af _ (List.getElem_mem _)

abbrev RunC (F : Nat → Option RFunc) (f : Nat) : Prop := ∀ {fl H Q w v} {evs : List Ev}, Arr tEv H v evs → fl ≤ H.length →
  (∀ ve vl vr H', Keep H.length H H' → Arr tEnt H' ve (runQ w evs).1.es → Ints H' vl (runQ w evs).1.la → Ints H' vr (runQ w evs).1.re → Q (.tuple [.agg [ve, vl, vr], flt (runQ w evs).2.1 (runQ w evs).2.2]) H') → Ret F fl f [i64 w, v] H Q

theorem run_c {f n1 n2 : Nat} (hF : F f = some (rf_mergequeue_Run n1 n2)) (h1 : StepC F n1) (h2 : SettleC F n2) : RunC F f := fun {fl H Q w v evs} hv hfl hq => by
  refine v_mergequeue_Run hF _ _ ?_
  intro H2 d2 H3 d3
  have k3 := d2.keep.call d3.keep
  refine ⟨fun hw => ?_, fun hw => ⟨_, hv.len, fun h40 => ?_, fun h40 => ?_⟩⟩
  · have := hq .empty .empty .empty H3 k3
    unfold runQ at this
    rw [if_pos hw] at this
    exact this Arr.nil Arr.nil Arr.nil
  · have := hq .empty .empty .empty H3 k3
    unfold runQ at this
    rw [if_neg hw, if_pos (by omega)] at this
    exact this Arr.nil Arr.nil Arr.nil
  have hrun : runQ w evs = runE w evs 0 q0 := by unfold runQ; rw [if_neg hw, if_neg (by omega)]
  rw [hrun] at hq
  intro b5 H6 h5
  have hb5 : H.length ≤ b5 := by rw [h5.b_eq]; exact k3.len
  obtain ⟨H7, a1, a2, a3⟩ := h5.box.put (fl := fl) (o := 0) (n := 4) (v := .agg [.empty, .empty, .empty, i64 w]) rfl (by decide) rfl (by omega)
  have k6 := k3.call h5.keep
  have k7 : Keep H.length H H7 := k6.tr (a3.keep hb5 k6.len)
  have st : QSt H.length H7 b5 w .empty .empty .empty [] [] [] :=
    { ents := EntsH.nil, box := a2, lo := hb5, la := Own.nil, re := Own.nil, qe := at_empty, ql := at_empty, qr := at_empty, el := fun b h => absurd h at_empty, er := fun b h => absurd h at_empty, lr := fun b h => absurd h at_empty, aq := fun x hx => by cases hx }
  have hvs := hv.small
  refine ⟨H7, a1, _, hv.len, fun m _ _ _ _ _ v17 H' => ∃ (j : Nat) (ve vl vr : AV) (l : List (AV × Ent)) (la re : List Int), v17 = j ∧ j + m = evs.length ∧ Keep H.length H H' ∧ QSt H.length H' b5 w ve vl vr l la re ∧ runE w (evs.drop j) j ⟨l.map (·.2), la, re⟩ = runE w evs 0 q0 ∧ Small ⟨l.map (·.2), la, re⟩ j,
    evs.length, ⟨0, .empty, .empty, .empty, [], [], [], rfl, by omega, k7, st, by rw [List.drop_zero]; rfl, ⟨by simp, fun e he => by cases he⟩⟩, ?_⟩
  rintro m _ _ _ _ _ _ H23 ⟨j, ve, vl, vr, l, la, re, rfl, hm, hk, hst, hr, hs⟩
  refine ⟨fun hlt => ?_, fun hge => ?_⟩
  · have hj : j < evs.length := by omega
    have hs1 := hs.n
    simp only [List.length_map] at hs1
    rw [List.drop_eq_getElem_cons hj, runE] at hr
    refine ⟨_, _, _, (hv.keep hk).enc hj, ?_⟩
    intro H28 d28
    have s28 := hst.keep d28.keep
    have k28 := hk.call d28.keep
    refine h1 (x := evs[j]) s28 hfl (by omega) fun ve' l' r H30 q1 q2 q3 => ⟨_, rfl, fun hne => ?_, fun h0 => ?_⟩
    · rw [q2] at hr
      simp only at hr
      rw [if_pos hne] at hr
      have := hq .empty .empty .empty H30 (k28.tr q3.keep)
      rw [← hr] at this
      exact this Arr.nil Arr.nil Arr.nil
    · have h0 : r = 0 := by simpa using h0
      subst h0
      rw [q2] at hr
      simp only [ne_eq, not_true_eq_false, if_false] at hr
      have hs2 : Small ⟨l'.map (·.2), la, re⟩ (j + 1) := by
        have := stepE_small hs evs[j]
        rw [q2] at this; exact this
      have hn2 := hs2.n
      simp only [List.length_map] at hn2
      refine h2 q1 hfl (by omega) ⟨by omega, fun x hx => ?_, by omega, by omega⟩ fun ve2 vl2 vr2 l2 la2 re2 H32 t1 t2 t3 => ⟨rfl, m - 1, by omega, j + 1, ve2, vl2, vr2, l2, la2, re2, wsucc hj hvs, by omega, (k28.tr q3.keep).tr t3, t1, ?_, ?_⟩
      · have := hs2.af x.2 (List.mem_map_of_mem hx)
        omega
      · rw [← t2, ← hr]; simp
      · rw [← t2]; exact settleE_small hs2 (by omega)
  · have hj : j = evs.length := by omega
    subst hj
    rw [List.drop_length, runE] at hr
    refine ⟨ve, vl, vr, hst.box.loadN (o := 0) (n := 3) (by simp), hst.ents.own.scal, hst.la.scal, hst.re.scal, ?_⟩
    have := hq ve vl vr H23 hk
    rw [← hr] at this
    exact this hst.ents.arr hst.la.ints hst.re.ints

/-! ### Outcome -/

def outE (w : Int) (evs : List Ev) (c : Int) : Int × Int × Int × Int :=
  let r := runQ w evs
  if r.2.1 ≠ 0 ∨ r.2.2 ≠ 0 then (0, 0, r.2.1, r.2.2)
  else if fidx (fun x => x == c) r.1.la ≥ 0 then (1, fidx (fun x => x == c) r.1.la, 0, 0)
  else if fidx (fun x => x == c) r.1.re ≥ 0 then (2, fidx (fun x => x == c) r.1.re, 0, 0)
  else if findE c r.1.es ≥ 0 then (3, findE c r.1.es, 0, 0)
  else (0, 0, 6, -3)

abbrev OutcomeC (F : Nat → Option RFunc) (f : Nat) : Prop := ∀ {fl H Q w v c} {evs : List Ev}, Arr tEv H v evs → fl ≤ H.length →
  (∀ H', Keep H.length H H' → Q (.tuple [i64 (outE w evs c).1, i64 (outE w evs c).2.1, flt (outE w evs c).2.2.1 (outE w evs c).2.2.2]) H') → Ret F fl f [i64 w, v, i64 c] H Q
theorem outcome_c {f n1 n2 n3 n4 : Nat} (hF : F f = some (rf_mergequeue_Outcome n1 n2 n3 n4)) (h1 : RunC F n1) (h2 : IndexIC F n2) (h3 : F n3 = some rf_mergequeue_Outcomex1) (h4 : IndexFuncEC F n4) : OutcomeC F f := fun {fl H Q w v c evs} hv hfl hq => by
  refine v_mergequeue_Outcome hF _ _ _ ?_
  intro b3 H4 d4 H5 d5
  have k5 := d4.keep.call d5.keep
  refine h1 (hv.keep k5) (by have := k5.len; omega) fun ve vl vr H11 k11 he hl hr => ⟨_, _, _, _, _, rfl, ?_⟩
  intro H13 d13 H14 d14
  have k14 := (k5.call k11).call (d13.keep.call d14.keep)
  have k1114 := d13.keep.call d14.keep
  have hcell : Cell H14 b3 (i64 c) := d4.cell.keep ((d5.keep.call k11).call k1114)
  have ld := hcell.load
  have hl' := hl.keep k1114
  have hr' := hr.keep k1114
  have he' := he.keep k1114
  unfold outE at hq
  refine ⟨he.scal, hl.scal, hr.scal, fun hne => ?_, fun heq => ⟨c, ld, h2 hl' ⟨_, rfl, fun g1 => ?_, fun g1 => ⟨c, ld, h2 hr' ⟨_, rfl, fun g2 => ?_, fun g2 => h4 he' (p := fun e => e.ch == c) (fun cs a H' ha hk hrel => outcomex1_c h3 (hcell.keep hk) hrel) fun H27 k27 => ⟨_, rfl, fun g3 => ?_, fun g3 => ?_⟩⟩⟩⟩⟩⟩
  · have := hq H14 k14
    simp only at this
    rw [if_pos (by simp at hne; omega)] at this
    exact this
  all_goals
    have hz : (runQ w evs).2.1 = 0 ∧ (runQ w evs).2.2 = 0 := by
      simp at heq; exact heq
    have hz' : ¬ ((runQ w evs).2.1 ≠ 0 ∨ (runQ w evs).2.2 ≠ 0) := by omega
    try rw [hz.1, hz.2]
  · have := hq H14 k14
    simp only at this
    rw [if_neg hz', if_pos g1] at this; exact this
  · have := hq H14 k14
    simp only at this
    rw [if_neg hz', if_neg g1, if_pos g2] at this; exact this
  · have := hq H27 (k14.call k27)
    simp only at this
    have g3' : findE c (runQ w evs).1.es ≥ 0 := g3
    rw [if_neg hz', if_neg g1, if_neg g2, if_pos g3'] at this; exact this
  · have := hq H27 (k14.call k27)
    simp only at this
    have g3' : ¬ findE c (runQ w evs).1.es ≥ 0 := g3
    rw [if_neg hz', if_neg g1, if_neg g2, if_neg g3'] at this; exact this

end Go.RM

/-
  The reference's merge queue: what its functions return.
-/
namespace Go.RM
set_option linter.unusedSimpArgs false
set_option linter.unusedVariables false
set_option maxRecDepth 4000

namespace Mq
structure Tri where
  c : Int
  p : Int
  s : Int
structure RQ where
  t : List Tri
  la : List Int
  re : List Int
end Mq
open Mq

variable {F : Nat → Option RFunc}

abbrev OI (n : Nat) (H : Heap) (v : AV) (l : List Int) : Prop := Own n H 1 v l.length (ints l)
theorem Own.less {n m e k : Nat} {H : Heap} {v : AV} {cs : List AV} (h : Own n H e v k cs) (hm : m ≤ n) : Own m H e v k cs := by
  rcases h.out with g | ⟨b, off, lim, kb, h1, h2, h3⟩
  · exact ⟨h.small, .inl g⟩
  · exact ⟨h.small, .inr ⟨b, off, lim, kb, h1, by omega, h3⟩⟩

/-- Three slices that are built side by side. -/
structure O3 (n : Nat) (H : Heap) (o0 o1 o2 : AV) (t : List Tri) : Prop where
  h0 : OI n H o0 (t.map (·.c))
  h1 : OI n H o1 (t.map (·.p))
  h2 : OI n H o2 (t.map (·.s))
  d01 : ∀ x, At o0 x → ¬ At o1 x
  d02 : ∀ x, At o0 x → ¬ At o2 x
  d12 : ∀ x, At o1 x → ¬ At o2 x

/-- The same, in the midst of a push. -/
structure O3p (n : Nat) (H : Heap) (o0 o1 o2 : AV) (a b c : List Int) : Prop where
  h0 : OI n H o0 a
  h1 : OI n H o1 b
  h2 : OI n H o2 c
  d01 : ∀ x, At o0 x → ¬ At o1 x
  d02 : ∀ x, At o0 x → ¬ At o2 x
  d12 : ∀ x, At o1 x → ¬ At o2 x

section
variable {n b fl : Nat} {H H1 : Heap} {o0 o1 o2 : AV} {la lb lc : List Int} {x : Int}

theorem keep_push {H2 : Heap} {v : AV} {l : List Int} (h : OI n H v l) (hn : n ≤ H.length) (hlen : H.length ≤ H2.length) (hfr : ∀ y, y < H.length → ¬ At v y → H2[y]? = H[y]?) : Keep n H H2 :=
  ⟨hn, hlen, fun y hy => hfr y (by omega) fun ha => by have := (h.at_lt ha).1; omega⟩

theorem O3p.of {t : List Tri} (h : O3p n H o0 o1 o2 (t.map (·.c)) (t.map (·.p)) (t.map (·.s))) : O3 n H o0 o1 o2 t := ⟨h.h0, h.h1, h.h2, h.d01, h.d02, h.d12⟩
theorem O3.p {t : List Tri} (h : O3 n H o0 o1 o2 t) : O3p n H o0 o1 o2 (t.map (·.c)) (t.map (·.p)) (t.map (·.s)) := ⟨h.h0, h.h1, h.h2, h.d01, h.d02, h.d12⟩
theorem O3.nil : O3 n H .empty .empty .empty [] := ⟨Own.nil, Own.nil, Own.nil, fun x h => absurd h at_empty, fun x h => absurd h at_empty, fun x h => absurd h at_empty⟩
/-- After three pushes. -/
theorem O3p.done {t : List Tri} {y : Tri} (h : O3p n H o0 o1 o2 (t.map (·.c) ++ [y.c]) (t.map (·.p) ++ [y.p]) (t.map (·.s) ++ [y.s])) : O3 n H o0 o1 o2 (t ++ [y]) :=
  O3p.of (by rw [List.map_append, List.map_append, List.map_append]; exact h)
end

/-- A state's lists, that are read. -/
structure RSt (H : Heap) (v0 v1 v2 v3 v4 : AV) (q : RQ) : Prop where
  c : OI 0 H v0 (q.t.map (·.c))
  p : OI 0 H v1 (q.t.map (·.p))
  s : OI 0 H v2 (q.t.map (·.s))
  la : OI 0 H v3 q.la
  re : OI 0 H v4 q.re

section
variable {H H' : Heap} {v0 v1 v2 v3 v4 : AV} {q : RQ}
theorem RSt.keep (h : RSt H v0 v1 v2 v3 v4 q) (k : Keep H.length H H') : RSt H' v0 v1 v2 v3 v4 q := ⟨h.c.keep k, h.p.keep k, h.s.keep k, h.la.keep k, h.re.keep k⟩
theorem RSt.nil : RSt H .empty .empty .empty .empty .empty ⟨[], [], []⟩ := ⟨Own.nil, Own.nil, Own.nil, Own.nil, Own.nil⟩
theorem RSt.len (h : RSt H v0 v1 v2 v3 v4 q) : lenA v0 = some q.t.length := by have := h.c.len; rwa [List.length_map] at this
theorem RSt.gs (h : RSt H v0 v1 v2 v3 v4 q) {i : Nat} (hi : i < q.t.length) : getA H 1 none v2 (i : Int) 0 = some (i64 q.t[i].s) := by
  have := h.s.ints.int (i := i) (by simpa using hi)
  simpa using this
end

theorem O3.less {n m : Nat} {H : Heap} {o0 o1 o2 : AV} {t : List Tri} (h : O3 n H o0 o1 o2 t) (hm : m ≤ n) : O3 m H o0 o1 o2 t := ⟨h.h0.less hm, h.h1.less hm, h.h2.less hm, h.d01, h.d02, h.d12⟩

/-! ### cut -/

/-! ### insert -/

end Go.RM

/-
  The reference's merge queue: settled, Step, RunQueue.
-/
namespace Go.RM
set_option linter.unusedSimpArgs false
set_option linter.unusedVariables false
set_option maxRecDepth 4000
open Mq

variable {F : Nat → Option RFunc}

/-- append(nil, v...) -/
theorem own_copy {H : Heap} {v : AV} {l : List Int} {fl : Nat} {free : Bool} (h : Ints H v l) (hl : l.length ≤ 2 ^ 20) :
    ∃ a H', appA fl free 1 8 H .empty v = some (a, H') ∧ OI H.length H' a l ∧ Keep H.length H H' ∧ (∀ b, At a b → H.length ≤ b) := by
  obtain ⟨css, h1, h2⟩ := h
  have hcss : css = l.map fun x => [AV.int .i64 x] := by
    clear h2 hl
    induction l generalizing css with
    | nil => cases css with
      | nil => rfl
      | cons _ _ => exact h1.elim
    | cons x l ih => cases css with
      | nil => exact h1.elim
      | cons c css => rw [List.map_cons, ← ih css h1.2, show c = [AV.int .i64 x] from h1.1]
  subst hcss
  rw [← Row.flat] at h2
  obtain ⟨c1, c2⟩ := sl_cells h2
  have c2' : sliceCells H 1 l.length v = some (ints l) := c2
  have hstart : appA fl free 1 8 H .empty v = rappend fl free 1 8 H .empty l.length (ints l) := by
    show (match sliceLen v with | some k => (sliceCells H 1 k v).bind fun xs => rappend fl free 1 8 H .empty k xs | none => none) = _
    rw [c1]; simp only [c2', Option.bind_some]
  rw [hstart]
  unfold rappend
  by_cases h0 : l.length = 0
  · obtain rfl := List.eq_nil_of_length_eq_zero h0
    exact ⟨.empty, H, rfl, Own.nil, Keep.refl H, fun b hb => absurd hb at_empty⟩
  · rw [if_neg h0]
    simp only
    rw [if_pos ⟨by omega, by omega⟩]
    refine ⟨.slice H.length 0 l.length none, H ++ [{ cells := ints l, e := 1 }], rfl, ⟨by omega, .inr ⟨H.length, 0, none, { cells := ints l, e := 1 }, rfl, Nat.le_refl _, snoc_end _ _, rfl, rfl, by simp, by
      show ints l = ((ints l).drop 0).take (l.length * 1)
      rw [List.drop_zero, Nat.mul_one, List.take_of_length_le (by simp)], ⟨l.length, by simp⟩, fun c hc => by cases hc⟩⟩, Keep.app H _, fun b hb => Nat.le_of_eq (at_slice.same hb)⟩

/-- A state whose third list may be written. -/
structure SSt (n : Nat) (H : Heap) (v0 v1 v2 v3 v4 : AV) (q : RQ) : Prop extends RSt H v0 v1 v2 v3 v4 q where
  own : OI n H v2 (q.t.map (·.s))
  d0 : ∀ b, At v2 b → ¬ At v0 b
  d1 : ∀ b, At v2 b → ¬ At v1 b
  d3 : ∀ b, At v2 b → ¬ At v3 b
  d4 : ∀ b, At v2 b → ¬ At v4 b

section
variable {n : Nat} {H H' : Heap} {v0 v1 v2 v3 v4 : AV} {q : RQ}
theorem SSt.keep (h : SSt n H v0 v1 v2 v3 v4 q) (k : Keep H.length H H') : SSt n H' v0 v1 v2 v3 v4 q := { h with toRSt := h.toRSt.keep k, own := h.own.keep k }
theorem set_map {q : List Tri} {i : Nat} {x : Int} (hi : i < q.length) : (q.map (·.c)) = ((q.set i { q[i] with s := x }).map (·.c)) ∧ (q.map (·.p)) = ((q.set i { q[i] with s := x }).map (·.p)) ∧ (q.map (·.s)).set i x = ((q.set i { q[i] with s := x }).map (·.s)) := by
  refine ⟨?_, ?_, ?_⟩
  · refine List.ext_getElem (by simp) fun k h1 h2 => ?_
    simp only [List.getElem_map, List.getElem_set]
    split
    · rename_i e; subst e; rfl
    · rfl
  · refine List.ext_getElem (by simp) fun k h1 h2 => ?_
    simp only [List.getElem_map, List.getElem_set]
    split
    · rename_i e; subst e; rfl
    · rfl
  · rw [List.map_set]
theorem SSt.put (h : SSt n H v0 v1 v2 v3 v4 q) {i : Nat} (hi : i < q.t.length) (x : Int) {fl : Nat} (hfl : fl ≤ n) (hn : n ≤ H.length) :
    ∃ b o, ptrA 1 v2 (i : Int) = some (b, o) ∧ ∃ H', putA fl H b o 1 (i64 x) = some H' ∧ SSt n H' v0 v1 v2 v3 v4 { q with t := q.t.set i { q.t[i] with s := x } } ∧ Keep n H H' ∧ H'.length = H.length := by
  obtain ⟨b, o, h1, h2, H', a1, a2, a3⟩ := own_putInt h.own (i := i) (by simpa using hi) (x := x) hfl
  obtain ⟨e1, e2, e3⟩ := set_map (x := x) hi
  rw [e3] at a2
  refine ⟨b, o, h1, H', a1, { c := ?_, p := ?_, s := a2.less (Nat.zero_le _), la := h.la.frame fun c hc => a3.get c fun e => h.d3 b h2 (e ▸ hc), re := h.re.frame fun c hc => a3.get c fun e => h.d4 b h2 (e ▸ hc), own := a2, d0 := h.d0, d1 := h.d1, d3 := h.d3, d4 := h.d4 }, a3.keep (h.own.at_lt h2).1 hn, a3.len⟩
  · rw [← e1]; exact h.c.frame fun c hc => a3.get c fun e => h.d0 b h2 (e ▸ hc)
  · rw [← e2]; exact h.p.frame fun c hc => a3.get c fun e => h.d1 b h2 (e ▸ hc)

theorem SSt.less {m : Nat} (h : SSt n H v0 v1 v2 v3 v4 q) (hm : m ≤ n) : SSt m H v0 v1 v2 v3 v4 q := { h with own := h.own.less hm }
end

end Go.RM

/-
  The reference's merge queue: Step, RunQueue, State, EqualQueues.
-/
namespace Go.RM
set_option linter.unusedSimpArgs false
set_option linter.unusedVariables false
set_option maxRecDepth 4000
open Mq

variable {F : Nat → Option RFunc}

/-! ### RunQueue -/

namespace Mq
end Mq

/-! ### State -/

namespace Mq
end Mq

/-! ### EqualQueues -/

end Go.RM

