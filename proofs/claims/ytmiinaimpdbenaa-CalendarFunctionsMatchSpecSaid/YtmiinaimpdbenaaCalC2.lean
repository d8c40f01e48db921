/-
  Package calendar and its reference: open minutes, counted and searched.
-/
import Derived.Test.YtmiinaimpdbenaaCalC
import Derived.Test.YtmiinaimpdbenaaSlcC
namespace Go.RM
set_option linter.unusedSimpArgs false
set_option linter.unusedVariables false
set_option maxRecDepth 4000
open Cal

variable {F : Nat → Option RFunc}

/-! ### slices.BinarySearch -/

/-- How many are less. -/
def below (x : Int) (l : List Int) : Nat := (l.filter fun y => decide (y < x)).length

theorem below_le (x : Int) (l : List Int) : below x l ≤ l.length := List.length_filter_le _ _

theorem below_spec {x : Int} : ∀ {l : List Int}, l.Pairwise (· < ·) → ∀ i (h : i < l.length), (l[i] < x ↔ i < below x l)
  | [], _, i, h => by simp at h
  | y :: l, hp, i, h => by
    rw [List.pairwise_cons] at hp
    have ih := below_spec (x := x) hp.2
    unfold below at ih ⊢
    rw [List.filter_cons]
    by_cases hy : y < x
    · rw [if_pos (by simpa using hy), List.length_cons]
      cases i with
      | zero => simp [hy]
      | succ i => have := ih i (by simpa using h); simp only [List.getElem_cons_succ]; omega
    · rw [if_neg (by simpa using hy)]
      have hnil : (l.filter fun z => decide (z < x)) = [] := by
        rw [List.filter_eq_nil_iff]
        intro z hz h2
        have := hp.1 z hz
        simp at h2; omega
      rw [hnil]
      cases i with
      | zero => simp [hy]
      | succ i =>
        have : y < l[i]'(by simpa using h) := hp.1 _ (List.getElem_mem _)
        simp only [List.getElem_cons_succ, List.length_nil]; omega

theorem half_shift {i j : Nat} (h : i + j ≤ 9223372036854775807) : IntKind.wrap .i64 (Int.fdiv (IntKind.wrap .u64 (IntKind.wrap .i64 ((i : Int) + j))) (2 ^ (Min.min (Int.toNat 1) (IntKind.bits .u64)))) = (((i + j) / 2 : Nat) : Int) := by
  have e1 : IntKind.wrap .i64 ((i : Int) + j) = ((i + j : Nat) : Int) := by rw [wrap64 (by omega) (by omega)]; omega
  have e2 : IntKind.wrap .u64 ((i + j : Nat) : Int) = ((i + j : Nat) : Int) := by
    have hb : (2 ^ IntKind.u64.bits : Int) = 18446744073709551616 := rfl
    have hs : IntKind.u64.signed = false := rfl
    unfold IntKind.wrap
    simp only [hb, hs, Bool.false_and, Bool.false_eq_true, if_false]
    omega
  have e3 : (2 : Int) ^ (Min.min (Int.toNat 1) (IntKind.bits .u64)) = 2 := rfl
  rw [e1, e2, e3, Int.fdiv_eq_ediv_of_nonneg _ (by decide), wrap64 (by omega) (by omega)]
  omega

abbrev NaNC (F : Nat → Option RFunc) (f : Nat) : Prop := ∀ {fl H Q} {x : Int}, Q (.bool false) H → Ret F fl f [i64 x] H Q
theorem cmpNaN_c {f : Nat} (hF : F f = some rf_cmp_isNaN_int) : NaNC F f := fun {fl H Q x} hq => by
  refine v_cmp_isNaN_int hF _ ?_
  simpa using hq
theorem slcNaN_c {f : Nat} (hF : F f = some rf_slices_isNaN_int) : NaNC F f := fun {fl H Q x} hq => by
  refine v_slices_isNaN_int hF _ ?_
  simpa using hq
abbrev LessC (F : Nat → Option RFunc) (f : Nat) : Prop := ∀ {fl H Q} {x y : Int}, Q (.bool (decide (x < y))) H → Ret F fl f [i64 x, i64 y] H Q
theorem less_c {f n1 : Nat} (hF : F f = some (rf_cmp_Less_int n1)) (h1 : NaNC F n1) : LessC F f := fun {fl H Q x y} hq => by
  refine v_cmp_Less_int hF _ _ ?_
  refine h1 ⟨_, rfl, fun h => ?_, fun _ => hq⟩
  cases h

abbrev BinSearchC (F : Nat → Option RFunc) (f : Nat) : Prop := ∀ {fl H Q v} {l : List Int} {x : Int}, Ints H v l → l.Pairwise (· < ·) → l.length ≤ 2 ^ 62 → Q (.tuple [i64 (below x l : Nat), .bool (decide (x ∈ l))]) H → Ret F fl f [v, i64 x] H Q
theorem binSearch_c {f n1 n2 : Nat} (hF : F f = some (rf_slices_BinarySearch__int_int n1 n2)) (h1 : LessC F n1) (h2 : NaNC F n2) : BinSearchC F f := fun {fl H Q v l x} hv hp hl hq => by
  refine v_slices_BinarySearch__int_int hF _ _ ?_
  have hs := hv.small
  have hbl := below_le x l
  have hsp := below_spec (x := x) hp
  refine ⟨_, hv.len, fun m i j H' => ∃ a b : Nat, i = a ∧ j = b ∧ a ≤ b ∧ b ≤ l.length ∧ b - a ≤ m ∧ a ≤ below x l ∧ below x l ≤ b ∧ H' = H, l.length, ⟨0, l.length, rfl, rfl, by omega, Nat.le_refl _, by omega, by omega, hbl, rfl⟩, ?_⟩
  rintro m _ _ _ ⟨a, b, rfl, rfl, hab, hb, hm, h3, h4, rfl⟩
  refine ⟨fun hlt => ?_, fun hge => ?_⟩
  · rw [half_shift (by omega)]
    have hmid : (a + b) / 2 < l.length := by omega
    refine ⟨_, hv.int hmid, h1 ⟨_, rfl, fun ht => ?_, fun hf => ?_⟩⟩
    · have := (hsp _ hmid).1 (by simpa using ht)
      exact ⟨m - 1, by omega, (a + b) / 2 + 1, b, wsucc hmid hs, rfl, by omega, hb, by omega, by omega, h4, rfl⟩
    · have : ¬ (a + b) / 2 < below x l := fun h => hf (by simpa using (hsp _ hmid).2 h)
      exact ⟨m - 1, by omega, a, (a + b) / 2, rfl, rfl, by omega, by omega, by omega, h3, by omega, rfl⟩
  · have ha : a = below x l := by omega
    subst ha
    have hmem : x ∈ l ↔ ∃ h : below x l < l.length, l[below x l] = x := by
      constructor
      · intro hx
        obtain ⟨i, hi, he⟩ := List.getElem_of_mem hx
        have h5 : ¬ i < below x l := fun h => by have := (hsp i hi).2 h; omega
        have h6 : below x l ≤ i := by omega
        have hbi : below x l < l.length := by omega
        have h7 : ¬ l[below x l] < x := fun h => by have := (hsp _ hbi).1 h; omega
        rcases Nat.lt_or_eq_of_le h6 with h8 | h8
        · have := List.pairwise_iff_getElem.1 hp (below x l) i hbi hi h8
          omega
        · exact ⟨hbi, by simp only [h8, he]⟩
      · rintro ⟨h, he⟩; rw [← he]; exact List.getElem_mem h
    refine ⟨fun hlt => ?_, fun hge' => ?_⟩
    · have hbi : below x l < l.length := by omega
      refine ⟨_, hv.int hbi, fun he => ?_, fun hne => ⟨_, hv.int hbi, h2 ⟨_, rfl, fun h => ?_, fun _ => ?_⟩⟩⟩
      · rw [decide_eq_true (hmem.2 ⟨hbi, he⟩)] at hq; exact hq
      · cases h
      · rw [decide_eq_false fun h => by obtain ⟨_, he⟩ := hmem.1 h; exact hne he] at hq; exact hq
    · rw [decide_eq_false fun h => by obtain ⟨h, _⟩ := hmem.1 h; omega] at hq; exact hq

/-! ### day -/

abbrev DayC (F : Nat → Option RFunc) (f : Nat) : Prop := ∀ {fl H Q w h} {c : Calr} {d : Int}, CalA H w h c → Ok c → 0 ≤ d → d ≤ 100000 → fl ≤ H.length → (∀ r H', Keep H.length H H' → Acc H tSpn H' r (spans c d) → Q r H') → Ret F fl f [calV w h, i64 d] H Q

theorem day_c {f n1 : Nat} (hF : F f = some (rf_calendar_day n1)) (h1 : BinSearchC F n1) : DayC F f := fun {fl H Q w h c d} hc ho d0 d1 hfl hq => by
  refine v_calendar_day hF _ _ _ ?_
  intro H3 d3
  have k3 := d3.keep
  refine h1 (hc.hs.keep k3) ho.inc (by have := ho.nh; omega) ⟨_, _, rfl, fun hin => ?_, fun hnin => ?_⟩
  · have hin : d ∈ c.hs := by simpa using hin
    have := hq .empty H3 k3
    unfold spans at this
    rw [if_pos hin] at this; exact this Acc.nil
  · have hnin : ¬ d ∈ c.hs := by simpa using hnin
    have hws := hc.ws.small
    have hmod : Int.tmod d 7 = d % 7 := by rw [Int.tmod_eq_emod_of_nonneg d0]
    have e1 : IntKind.wrap .i64 (d * 1440) = d * 1440 := by rw [wrap64 (by omega) (by omega)]
    refine ⟨_, (hc.ws.keep k3).len, fun m v r H' => ∃ i : Nat, v = i ∧ i + m = c.ws.length ∧ Keep H.length H H' ∧ Acc H tSpn H' r (((c.ws.take i).filter fun w => w.1 == d % 7).map fun w => (d * 1440 + w.2.1, d * 1440 + w.2.2)), c.ws.length, ⟨0, rfl, by omega, k3, by simpa using Acc.nil⟩, ?_⟩
    rintro m _ r H' ⟨i, rfl, hm, hk, hr⟩
    refine ⟨fun hlt => ?_, fun hge => ?_⟩
    · have hil : i < c.ws.length := by omega
      have hw := ho.win _ (List.getElem_mem hil)
      unfold winOk at hw
      refine ⟨_, _, _, (hc.ws.keep hk).win hil, fun H22 d22 => ?_⟩
      have k22 := hk.call d22.keep
      have hlen : (((c.ws.take i).filter fun w => w.1 == d % 7).map fun w => (d * 1440 + w.2.1, d * 1440 + w.2.2)).length ≤ i := by
        rw [List.length_map]
        have := List.length_filter_le (fun w : Win => w.1 == d % 7) (c.ws.take i)
        rw [List.length_take] at this; omega
      have hnw := ho.nw
      rw [hmod, e1]
      refine ⟨fun he b H24 hb => ?_, fun hne => ?_⟩
      · have e2 : IntKind.wrap .i64 (d * 1440 + c.ws[i].2.1) = d * 1440 + c.ws[i].2.1 := by rw [wrap64 (by omega) (by omega)]
        have e3 : IntKind.wrap .i64 (d * 1440 + c.ws[i].2.2) = d * 1440 + c.ws[i].2.2 := by rw [wrap64 (by omega) (by omega)]
        rw [e2, e3] at hb
        obtain ⟨r', H26, a1, a2, a3, _⟩ := (hr.keep d22.keep).push (fl := fl) (free := true) (bytes := 16) (a := (d * 1440 + c.ws[i].2.1, d * 1440 + c.ws[i].2.2)) rfl hb k22 hfl (by omega) (by omega)
        refine ⟨r', H26, a1, m - 1, by omega, i + 1, wsucc hil hws, by omega, a3, ?_⟩
        rw [List.take_succ_eq_append_getElem hil, List.filter_append, List.map_append]
        have : [c.ws[i]].filter (fun w => w.1 == d % 7) = [c.ws[i]] := by simp [he]
        rw [this]; exact a2
      · refine ⟨m - 1, by omega, i + 1, wsucc hil hws, by omega, k22, ?_⟩
        rw [List.take_succ_eq_append_getElem hil, List.filter_append, List.map_append]
        have : [c.ws[i]].filter (fun w => w.1 == d % 7) = [] := by simp [hne]
        rw [this, List.map_nil, List.append_nil]; exact hr.keep d22.keep
    · rw [List.take_of_length_le (by omega)] at hr
      have := hq r H' hk
      unfold spans at this
      rw [if_neg hnin] at this; exact this hr

/-! ### check, Open -/

def timesBad (l : List Int) : Bool := l.any fun t => decide (t < 0 ∨ t > 10000000)
def checkR (c : Calr) (l : List Int) : Int × Int := if (calFault c).1 = 0 then (if timesBad l then (3, -20) else (0, 0)) else calFault c

abbrev CheckC (F : Nat → Option RFunc) (f : Nat) : Prop := ∀ {fl H Q w h v} {c : Calr} {l : List Int}, CalA H w h c → Ints H v l → (∀ H', Keep H.length H H' → Q (fp2 (checkR c l)) H') → Ret F fl f [calV w h, v] H Q

theorem calOk_iff {c : Calr} : ((calFault c).1 = 0 ∧ (calFault c).2 = 0 ∧ True) ↔ (calFault c).1 = 0 := ⟨fun h => h.1, fun h => by rw [(calFault_ok h).2]; exact ⟨rfl, rfl, trivial⟩⟩

theorem check_c {f n1 : Nat} (hF : F f = some (rf_calendar_check n1)) (h1 : CalFaultC F n1) : CheckC F f := fun {fl H Q w h v c l} hc hv hq => by
  refine v_calendar_check hF _ _ _ ?_
  intro H3 d3 H4 d4
  have k4 := d3.keep.call d4.keep
  refine h1 (hc.keep k4) fun H7 k7 => ⟨_, _, rfl, fun H9 d9 => ?_⟩
  have k9 := (k4.call k7).call d9.keep
  unfold checkR at hq
  rw [calOk_iff]
  refine ⟨fun hne => ?_, fun he => ?_⟩
  · rw [if_neg hne] at hq; exact hq H9 k9
  · rw [if_pos (Decidable.not_not.1 he)] at hq
    have hs := hv.small
    refine ⟨_, (hv.keep k9).len, fun m a b v => ∃ i : Nat, v = i ∧ i + m = l.length ∧ a = 0 ∧ b = 0 ∧ timesBad l = timesBad (l.drop i), l.length, ⟨0, rfl, by omega, rfl, rfl, rfl⟩, ?_⟩
    rintro m _ _ _ ⟨i, rfl, hm, rfl, rfl, hi⟩
    refine ⟨fun hlt => ?_, fun hge => ?_⟩
    · have hil : i < l.length := by omega
      rw [List.drop_eq_getElem_cons hil] at hi
      unfold timesBad at hi
      rw [List.any_cons] at hi
      refine ⟨_, (hv.keep k9).int hil, fun hb => ?_, fun hb => ?_⟩
      · rw [decide_eq_true hb, Bool.true_or] at hi
        have : timesBad l = true := hi
        rw [if_pos this] at hq; exact hq H9 k9
      · rw [decide_eq_false hb, Bool.false_or] at hi
        exact ⟨m - 1, by omega, i + 1, wsucc hil hs, by omega, rfl, rfl, hi⟩
    · rw [List.drop_eq_nil_of_le (by omega)] at hi
      have : timesBad l = false := hi
      rw [if_neg (by rw [this]; decide)] at hq; exact hq H9 k9

theorem checkR_ok {c : Calr} {l : List Int} (h : (checkR c l).1 = 0) : Ok c ∧ timesBad l = false ∧ checkR c l = (0, 0) ∧ (calFault c).1 = 0 := by
  unfold checkR at h ⊢
  split at h
  · rename_i h1
    split at h
    · cases h
    · rename_i h2
      exact ⟨(calFault_ok h1).1, by simpa using h2, by rw [if_pos h1, if_neg h2], h1⟩
  · rename_i h1; exact absurd h h1
theorem checkOk_iff {c : Calr} {l : List Int} : ((checkR c l).1 = 0 ∧ (checkR c l).2 = 0 ∧ True) ↔ (checkR c l).1 = 0 := ⟨fun h => h.1, fun h => by rw [(checkR_ok h).2.2.1]; exact ⟨rfl, rfl, trivial⟩⟩
theorem time1 {t : Int} (h : timesBad [t] = false) : 0 ≤ t ∧ t ≤ 10000000 := by
  unfold timesBad at h
  simp at h; omega
theorem time2 {t u : Int} (h : timesBad [t, u] = false) : (0 ≤ t ∧ t ≤ 10000000) ∧ 0 ≤ u ∧ u ≤ 10000000 := by
  unfold timesBad at h
  simp at h; omega

/-- slices.ContainsFunc over spans. -/
abbrev ContainsSC (F : Nat → Option RFunc) (f : Nat) : Prop := ∀ {fl H Q v} {l : List Spn} {g caps p}, Arr tSpn H v l → (∀ (s : Spn) (H' : Heap), s ∈ l → Keep H.length H H' → Ret F fl g ([.agg (spnE s)] ++ caps) H' fun v H'' => v = .bool (p s) ∧ Keep H'.length H' H'') →
  (∀ H', Keep H.length H H' → Q (.bool (l.any p)) H') → Ret F fl f [v, .func g caps] H Q
theorem containsS_c {f n1 : Nat} (hF : F f = some (rf_slices_ContainsFunc__calendar_span_calendar_span n1)) (hI : F n1 = some rf_slices_IndexFunc__calendar_span_calendar_span) : ContainsSC F f := fun {fl H Q v l g caps p} hv ht hq => by
  refine v_slices_ContainsFunc__calendar_span_calendar_span hF _ _ _ ?_
  refine v_slices_IndexFunc__calendar_span_calendar_span hI _ _ _ ?_
  refine ⟨_, hv.len, fun m v H' => ∃ i : Nat, v = i ∧ i + m = l.length ∧ Keep H.length H H' ∧ ∀ x ∈ l.take i, p x = false, l.length, ⟨0, rfl, by omega, Keep.refl H, by simp⟩, ?_⟩
  rintro m _ H' ⟨i, rfl, hm, hk, hi⟩
  refine ⟨fun hlt => ?_, fun hge => ?_⟩
  · have hil : i < l.length := by omega
    refine ⟨_, _, (hv.keep hk).spn hil, (ht l[i] H' (List.getElem_mem hil) hk).mono ?_⟩
    rintro _ H2 ⟨rfl, hk2⟩
    refine ⟨_, rfl, fun he => ⟨_, rfl, ?_⟩, fun hne => ⟨m - 1, by omega, i + 1, wsucc hil hv.small, by omega, hk.call hk2, take_step hil (by simpa using hne) hi⟩⟩
    have := hq H2 (hk.call hk2)
    rw [← fidx_nonneg, fidx_hit hil he hi] at this; exact this
  · rw [List.take_of_length_le (by omega)] at hi
    have := hq H' hk
    rw [← fidx_nonneg, fidx_none hi] at this
    exact ⟨_, rfl, this⟩

def openR (c : Calr) (t : Int) : Bool × (Int × Int) := if (checkR c [t]).1 = 0 then (op c t, (0, 0)) else (false, checkR c [t])

abbrev OpenC (F : Nat → Option RFunc) (f : Nat) : Prop := ∀ {fl H Q w h} {c : Calr} {t : Int}, CalA H w h c → fl ≤ H.length → (∀ H', Keep H.length H H' → Q (.tuple [.bool (openR c t).1, fp2 (openR c t).2]) H') → Ret F fl f [calV w h, i64 t] H Q

theorem open_c {f n1 n2 n3 n4 : Nat} (hF : F f = some (rf_calendar_Open n1 n2 n3 n4)) (h1 : CheckC F n1) (h2 : DayC F n2) (h3 : F n3 = some rf_calendar_Openx1) (h4 : ContainsSC F n4) : OpenC F f := fun {fl H Q w h c t} hc hfl hq => by
  refine v_calendar_Open hF _ _ _ ?_
  intro H3 d3 b H5 hb H6 d6
  have k6 := (d3.keep.call hb.keep).call d6.keep
  have cb : Cell H6 b (i64 t) := hb.cell.keep d6.keep
  refine ⟨_, cb.load, fun b8 H9 hb8 => ?_⟩
  have k9 := k6.call hb8.keep
  refine h1 (hc.keep k9) (hb8.ints [t] rfl rfl) fun H12 k12 => ⟨_, _, rfl, fun H14 d14 => ?_⟩
  have k14 := (k9.call k12).call d14.keep
  have cb14 := ((cb.keep hb8.keep).keep k12).keep d14.keep
  unfold openR at hq
  rw [checkOk_iff]
  refine ⟨fun hne => ?_, fun he => ?_⟩
  · rw [if_neg hne] at hq; exact hq H14 k14
  · have he := Decidable.not_not.1 he
    rw [if_pos he] at hq
    obtain ⟨ho, ht, e, _⟩ := checkR_ok he
    obtain ⟨t0, t1⟩ := time1 ht
    have ed : IntKind.wrap .i64 (Int.tdiv t 1440) = t / 1440 := by rw [Int.tdiv_eq_ediv_of_nonneg t0, wrap64 (by omega) (by omega)]
    refine ⟨_, cb14.load, ?_⟩
    rw [ed]
    refine h2 (hc.keep k14) ho (by omega) (by omega) (Nat.le_refl _) fun r H17 k17 hr => ?_
    refine h4 (hr.arrP tSpn.plain) (p := inSp t) ?_ fun H20 k20 => ⟨_, rfl, ?_⟩
    · intro s H' _ hk'
      refine v_calendar_Openx1 h3 _ _ _ ?_
      intro H3' d3'
      have cc := ((cb14.keep k17).keep hk').keep d3'.keep
      refine ⟨b, 0, rfl, t, cc.load, fun hle => ⟨t, cc.load, ?_, d3'.keep⟩, fun hgt => ⟨?_, d3'.keep⟩⟩
      · unfold inSp; simp [hle]
      · unfold inSp; simp [hgt]
    · rw [e, ← op_spans ho rfl t0]
      exact hq H20 ((k14.call k17).call k20)

end Go.RM
