/-
  Package calendar: the next open minute, the open minutes of a range, and adding open minutes.
-/
import Derived.Test.YtmiinaimpdbenaaCalC3
namespace Go.RM
set_option linter.unusedSimpArgs false
set_option linter.unusedVariables false
set_option maxRecDepth 4000
open Cal

variable {F : Nat → Option RFunc}

theorem N_run {c : Calr} {a b : Int} (h0 : 0 ≤ a) (hab : a ≤ b) (h : ∀ t, a ≤ t → t < b → op c t = true) : N c b = N c a + (b - a) := by
  have := count_N (c := c) (g := fun x => x) h0 hab fun t h1 h2 => by rw [h t h1 h2]; rfl
  omega
theorem op_in {c : Calr} (ho : Ok c) {d u : Int} {s : Spn} (h0 : 0 ≤ d) (hs : s ∈ spans c d) (h1 : s.1 ≤ u) (h2 : u < s.2) : op c u = true := by
  have h := (spans_ok ho (d := d)).1 s hs
  have hl := h.lo
  have hh := h.hi
  rw [op_spans ho (d := d) (by omega) (by omega), List.any_eq_true]
  exact ⟨s, hs, by unfold inSp; simp [h1, h2]⟩
theorem op_out {c : Calr} (ho : Ok c) {d u : Int} (h : u / 1440 = d) (h0 : 0 ≤ u) (hn : ∀ s ∈ spans c d, ¬ (s.1 ≤ u ∧ u < s.2)) : op c u = false := by
  rw [op_spans ho h h0, List.any_eq_false]
  intro s hs h2
  unfold inSp at h2
  exact hn s hs (by simpa using h2)
theorem spans_len {c : Calr} (ho : Ok c) {d : Int} : (spans c d).length ≤ 12 := by
  unfold spans
  split
  · simp
  · rw [List.length_map]
    have := List.length_filter_le (fun w : Win => w.1 == d % 7) c.ws
    have := ho.nw
    omega
theorem spans_lt {c : Calr} (ho : Ok c) {d : Int} {i j : Nat} (hij : i < j) (hj : j < (spans c d).length) : (spans c d)[i].2 ≤ (spans c d)[j].1 := List.pairwise_iff_getElem.1 (spans_ok ho (d := d)).2 i j (by omega) hj hij

/-! ### Next -/

def nextR (c : Calr) (t : Int) : Int × (Int × Int) := if (checkR c [t]).1 = 0 then (match findFrom (op c) t 500001 with | some u => (u, (0, 0)) | none => (0, (6, -21))) else (0, checkR c [t])

abbrev TimeC (F : Nat → Option RFunc) (f : Nat) (R : Calr → Int → Int × (Int × Int)) : Prop := ∀ {fl H Q w h} {c : Calr} {t : Int}, CalA H w h c → fl ≤ H.length → (∀ H', Keep H.length H H' → Q (.tuple [i64 (R c t).1, fp2 (R c t).2]) H') → Ret F fl f [calV w h, i64 t] H Q
theorem next_c {f n1 n2 : Nat} (hF : F f = some (rf_calendar_Next n1 n2)) (h1 : CheckC F n1) (h2 : DayC F n2) : TimeC F f nextR := fun {fl H Q w h c t} hc hfl hq => by
  refine v_calendar_Next hF _ _ _ ?_
  intro H3 d3 H4 d4 b5 H6 hb5
  have k6 := (d3.keep.call d4.keep).call hb5.keep
  refine h1 (hc.keep k6) (hb5.ints [t] rfl rfl) fun H9 k9 => ⟨_, _, rfl, fun H11 d11 => ?_⟩
  have k11 := (k6.call k9).call d11.keep
  unfold nextR at hq
  rw [checkOk_iff]
  refine ⟨fun hne => ?_, fun he => ?_⟩
  · rw [if_neg hne] at hq; exact hq H11 k11
  have he := Decidable.not_not.1 he
  rw [if_pos he] at hq
  obtain ⟨ho, ht, e, _⟩ := checkR_ok he
  obtain ⟨t0, t1⟩ := time1 ht
  have ed : IntKind.wrap .i64 (Int.tdiv t 1440) = t / 1440 := by rw [Int.tdiv_eq_ediv_of_nonneg t0, wrap64 (by omega) (by omega)]
  have et : IntKind.wrap .i64 (t + 500000) = t + 500000 := by rw [wrap64 (by omega) (by omega)]
  rw [ed, et]
  refine ⟨fun m v w d H' => t / 1440 ≤ d ∧ d + m = (t + 500000) / 1440 + 1 ∧ v = 0 ∧ w = 0 ∧ Keep H.length H H' ∧ ∀ s, t ≤ s → s ≤ t + 500000 → s < d * 1440 → op c s = false, ((t + 500000) / 1440 + 1 - t / 1440).toNat, ⟨Int.le_refl _, by omega, rfl, rfl, k11, fun s _ _ _ => by omega⟩, ?_⟩
  rintro m _ _ d H' ⟨hd, hm, rfl, rfl, hk, hno⟩
  have e1 : IntKind.wrap .i64 (d * 1440) = d * 1440 := by rw [wrap64 (by omega) (by omega)]
  have e2 : IntKind.wrap .i64 (d + 1) = d + 1 := by rw [wrap64 (by omega) (by omega)]
  rw [e1, e2]
  refine ⟨fun hle => ?_, fun hgt => ?_⟩
  · refine h2 (hc.keep hk) ho (by omega) (by omega) (Nat.le_trans hfl hk.len) fun r H29 k29 hr => ?_
    have hv := hr.arrP tSpn.plain
    have hs := hv.small
    have hln := spans_len ho (d := d)
    refine ⟨_, hv.len, fun m' v w i H' => ∃ j : Nat, i = j ∧ j + m' = (spans c d).length ∧ v = 0 ∧ w = 0 ∧ Keep H29.length H29 H' ∧ ∀ x ∈ (spans c d).take j, ¬ (max x.1 t < x.2 ∧ max x.1 t ≤ t + 500000), (spans c d).length, ⟨0, rfl, by omega, rfl, rfl, Keep.refl _, by simp⟩, ?_⟩
    rintro m' _ _ _ H43 ⟨j, rfl, hm', rfl, rfl, hk', hj⟩
    have kk := (hk.call k29).call hk'
    refine ⟨fun hlt => ?_, fun hge => ?_⟩
    · have hil : j < (spans c d).length := by omega
      refine ⟨_, _, (hv.keep hk').spn hil, fun H47 d47 => ?_⟩
      have hmem := List.getElem_mem hil
      have hso := (spans_ok ho (d := d)).1 _ hmem
      have o1 := hso.lo
      have o2 := hso.hi
      have o3 := hso.lt
      rw [imax_eq]
      refine ⟨fun hyes => ?_, fun hn => ⟨m' - 1, by omega, j + 1, wsucc hil hs, by omega, rfl, rfl, hk'.call d47.keep, ?_⟩⟩
      · have hf : findFrom (op c) t 500001 = some (max (spans c d)[j].1 t) := by
          refine findFrom_eq (by omega) (by omega) (op_in ho (by omega) hmem (by omega) hyes.1) fun s h3 h4 => ?_
          by_cases hs' : s < d * 1440
          · exact hno s h3 (by omega) hs'
          · refine op_out ho (d := d) (by omega) (by omega) fun x hx hin => ?_
            obtain ⟨q, hq', rfl⟩ := List.getElem_of_mem hx
            rcases Nat.lt_trichotomy q j with h5 | h5 | h5
            · exact hj _ (by rw [List.mem_take_iff_getElem]; exact ⟨q, by omega, rfl⟩) (by omega)
            · subst h5; omega
            · have := spans_lt ho h5 hq'; omega
        rw [hf] at hq
        rw [e]
        exact hq H47 (kk.call d47.keep)
      · intro x hx
        rw [List.take_succ_eq_append_getElem hil, List.mem_append, List.mem_singleton] at hx
        rcases hx with hx | rfl
        · exact hj x hx
        · exact hn
    · rw [List.take_of_length_le (by omega)] at hj
      refine ⟨m - 1, by omega, by omega, by omega, rfl, rfl, kk, fun s h3 h4 h5 => ?_⟩
      by_cases hs' : s < d * 1440
      · exact hno s h3 h4 hs'
      · exact op_out ho (d := d) (by omega) (by omega) fun x hx hin => hj x hx (by omega)
  · rw [findFrom_none fun s h3 h4 => hno s h3 (by omega) (by omega)] at hq
    exact hq H' hk

/-! ### Worked -/

def workedR (c : Calr) (a b : Int) : Int × (Int × Int) := if (checkR c [a, b]).1 = 0 then (if b < a ∨ b - a > 500000 then (0, (3, -21)) else (N c b - N c a, (0, 0))) else (0, checkR c [a, b])

theorem ov_nn {a b : Int} : ∀ {l : List Spn}, 0 ≤ ov a b l
  | [] => Int.le_refl _
  | s :: l => by have := ov_nn (a := a) (b := b) (l := l); rw [ov]; omega
theorem ovDays_nn {c : Calr} {a b : Int} : ∀ {n : Nat} {d : Int}, 0 ≤ ovDays c a b n d
  | 0, _ => Int.le_refl _
  | n + 1, d => by have := ovDays_nn (c := c) (a := a) (b := b) (n := n) (d := d + 1); have := ov_nn (a := a) (b := b) (l := spans c d); rw [ovDays]; omega
theorem ovDays_late {c : Calr} (ho : Ok c) {a b : Int} : ∀ {n : Nat} {d : Int}, b ≤ d * 1440 → ovDays c a b n d = 0
  | 0, _, _ => rfl
  | n + 1, d, h => by rw [ovDays, ov_early h (spans_ok ho).1, ovDays_late ho (by omega)]; rfl

abbrev Time2C (F : Nat → Option RFunc) (f : Nat) (R : Calr → Int → Int → Int × (Int × Int)) : Prop := ∀ {fl H Q w h} {c : Calr} {t u : Int}, CalA H w h c → fl ≤ H.length → (∀ H', Keep H.length H H' → Q (.tuple [i64 (R c t u).1, fp2 (R c t u).2]) H') → Ret F fl f [calV w h, i64 t, i64 u] H Q
theorem worked_c {f n1 n2 : Nat} (hF : F f = some (rf_calendar_Worked n1 n2)) (h1 : CheckC F n1) (h2 : DayC F n2) : Time2C F f workedR := fun {fl H Q w h c a b} hc hfl hq => by
  refine v_calendar_Worked hF _ _ _ _ ?_
  intro H4 d4 H5 d5 b6 H7 hb6
  have k7 := (d4.keep.call d5.keep).call hb6.keep
  refine h1 (hc.keep k7) (hb6.ints [a, b] rfl rfl) fun H10 k10 => ⟨_, _, rfl, fun H12 d12 => ?_⟩
  have k12 := (k7.call k10).call d12.keep
  unfold workedR at hq
  rw [checkOk_iff]
  refine ⟨fun x y => (x, y) = (if (checkR c [a, b]).1 = 0 then (if b < a ∨ b - a > 500000 then (3, -21) else (0, 0)) else checkR c [a, b]), ⟨fun h => ?_, fun h => ?_⟩, ?_⟩
  · obtain ⟨he, hr⟩ := h
    obtain ⟨ho, ht, e, _⟩ := checkR_ok he
    obtain ⟨⟨t0, t1⟩, t2, t3⟩ := time2 ht
    have ew : IntKind.wrap .i64 (b - a) = b - a := by rw [wrap64 (by omega) (by omega)]
    rw [ew] at hr
    rw [if_pos he, if_pos hr]
  · by_cases he : (checkR c [a, b]).1 = 0
    · obtain ⟨ho, ht, e, _⟩ := checkR_ok he
      obtain ⟨⟨t0, t1⟩, t2, t3⟩ := time2 ht
      have ew : IntKind.wrap .i64 (b - a) = b - a := by rw [wrap64 (by omega) (by omega)]
      rw [ew] at h
      rw [if_pos he, if_neg fun hh => h ⟨he, hh⟩, e]
    · rw [if_neg he]
  rintro x y hxy
  by_cases he : (checkR c [a, b]).1 = 0
  · rw [if_pos he] at hq hxy
    obtain ⟨ho, ht, e, _⟩ := checkR_ok he
    obtain ⟨⟨t0, t1⟩, t2, t3⟩ := time2 ht
    by_cases hr : b < a ∨ b - a > 500000
    · rw [if_pos hr] at hq hxy
      cases hxy
      exact ⟨fun _ => hq H12 k12, fun hn => absurd (fun h => by cases h.1) hn⟩
    · rw [if_neg hr] at hq hxy
      cases hxy
      refine ⟨fun hn => absurd ⟨rfl, rfl, trivial⟩ hn, fun _ => ?_⟩
      have ed : IntKind.wrap .i64 (Int.tdiv a 1440) = a / 1440 := by rw [Int.tdiv_eq_ediv_of_nonneg t0, wrap64 (by omega) (by omega)]
      rw [ed]
      have htot := ovDays_N ho t0 (b := b) (by omega) (b / 1440 + 1 - a / 1440).toNat (by omega)
      have hN := (N_mono (c := c) t0 (b := b) (by omega)).2
      refine ⟨fun m d sum H' => a / 1440 ≤ d ∧ d + m = b / 1440 + 1 ∧ 0 ≤ sum ∧ sum + ovDays c a b m d = N c b - N c a ∧ Keep H.length H H', (b / 1440 + 1 - a / 1440).toNat, ⟨Int.le_refl _, by omega, Int.le_refl _, by omega, k12⟩, ?_⟩
      rintro m d sum H' ⟨hd, hm, hs0, hsum, hk⟩
      have e1 : IntKind.wrap .i64 (d * 1440) = d * 1440 := by rw [wrap64 (by omega) (by omega)]
      have e2 : IntKind.wrap .i64 (d + 1) = d + 1 := by rw [wrap64 (by omega) (by omega)]
      rw [e1, e2]
      refine ⟨fun hle => ?_, fun hgt => ?_⟩
      · obtain ⟨m, rfl⟩ : ∃ n, m = n + 1 := ⟨m - 1, by omega⟩
        rw [ovDays] at hsum
        refine h2 (hc.keep hk) ho (by omega) (by omega) (Nat.le_trans hfl hk.len) fun r H30 k30 hr => ?_
        have hv := hr.arrP tSpn.plain
        have hs := hv.small
        have hln := spans_len ho (d := d)
        have hnn := ovDays_nn (c := c) (a := a) (b := b) (n := m) (d := d + 1)
        refine ⟨_, hv.len, fun m' i sum H' => ∃ j : Nat, i = j ∧ j + m' = (spans c d).length ∧ Keep H30.length H30 H' ∧ 0 ≤ sum ∧ sum + ov a b ((spans c d).drop j) + ovDays c a b m (d + 1) = N c b - N c a, (spans c d).length, ⟨0, rfl, by omega, Keep.refl _, hs0, by rw [List.drop_zero]; omega⟩, ?_⟩
        rintro m' _ sum H40 ⟨j, rfl, hm', hk', hs0, hj⟩
        have kk := (hk.call k30).call hk'
        refine ⟨fun hlt => ?_, fun hge => ?_⟩
        · have hil : j < (spans c d).length := by omega
          refine ⟨_, _, (hv.keep hk').spn hil, fun H44 d44 => ?_⟩
          rw [List.drop_eq_getElem_cons hil, ov] at hj
          have hso := (spans_ok ho (d := d)).1 _ (List.getElem_mem hil)
          have o1 := hso.lo
          have o2 := hso.hi
          have o3 := hso.lt
          have hnn2 := ov_nn (a := a) (b := b) (l := (spans c d).drop (j + 1))
          rw [imax_eq, imin_eq, imax_eq]
          have e3 : IntKind.wrap .i64 (min (spans c d)[j].2 b - max (spans c d)[j].1 a) = min (spans c d)[j].2 b - max (spans c d)[j].1 a := by rw [wrap64 (by omega) (by omega)]
          have e4 : IntKind.wrap .i64 (sum + max 0 (min (spans c d)[j].2 b - max (spans c d)[j].1 a)) = sum + max 0 (min (spans c d)[j].2 b - max (spans c d)[j].1 a) := by rw [wrap64 (by omega) (by omega)]
          rw [e3, e4]
          exact ⟨m' - 1, by omega, j + 1, wsucc hil hs, by omega, hk'.call d44.keep, by omega, by omega⟩
        · rw [List.drop_eq_nil_of_le (by omega), ov] at hj
          exact ⟨m, by omega, by omega, by omega, hs0, by omega, kk⟩
      · rw [ovDays_late ho (by omega)] at hsum
        have : sum = N c b - N c a := by omega
        subst this
        exact hq H' hk
  · rw [if_neg he] at hq hxy
    refine ⟨fun _ => ?_, fun hn => ?_⟩
    · have := hq H12 k12
      rw [← hxy] at this; exact this
    · exact absurd (fun h => he (by rw [← hxy]; exact h.1)) hn

/-! ### Add -/

def addR (c : Calr) (t m : Int) : Int × (Int × Int) := if (checkR c [t]).1 = 0 then (if m < 0 ∨ m > 500000 then (0, (3, -21)) else (match findFrom (fun u => decide (N c u ≥ N c t + m)) t 500001 with | some u => (u, (0, 0)) | none => (0, (6, -22)))) else (0, checkR c [t])

theorem add_c {f n1 n2 : Nat} (hF : F f = some (rf_calendar_Add n1 n2)) (h1 : CheckC F n1) (h2 : DayC F n2) : Time2C F f addR := fun {fl H Q w h c t mi} hc hfl hq => by
  refine v_calendar_Add hF _ _ _ _ ?_
  intro H4 d4 H5 d5 b6 H7 hb6
  have k7 := (d4.keep.call d5.keep).call hb6.keep
  refine h1 (hc.keep k7) (hb6.ints [t] rfl rfl) fun H10 k10 => ⟨_, _, rfl, fun H12 d12 => ?_⟩
  have k12 := (k7.call k10).call d12.keep
  unfold addR at hq
  rw [checkOk_iff]
  refine ⟨fun x y => (x, y) = (if (checkR c [t]).1 = 0 then (if mi < 0 ∨ mi > 500000 then (3, -21) else (0, 0)) else checkR c [t]), ⟨fun h => ?_, fun h => ?_⟩, ?_⟩
  · rw [if_pos h.1, if_pos h.2]
  · by_cases he : (checkR c [t]).1 = 0
    · obtain ⟨ho, ht, e, _⟩ := checkR_ok he
      rw [if_pos he, if_neg fun hh => h ⟨he, hh⟩, e]
    · rw [if_neg he]
  rintro x y hxy
  by_cases he : (checkR c [t]).1 = 0
  · rw [if_pos he] at hq hxy
    obtain ⟨ho, ht, e, _⟩ := checkR_ok he
    obtain ⟨t0, t1⟩ := time1 ht
    by_cases hr : mi < 0 ∨ mi > 500000
    · rw [if_pos hr] at hq hxy
      cases hxy
      exact ⟨fun _ => hq H12 k12, fun hn => absurd (fun h => by cases h.1) hn⟩
    rw [if_neg hr] at hq hxy
    cases hxy
    refine ⟨fun hn => absurd ⟨rfl, rfl, trivial⟩ hn, fun _ => ⟨fun hz => ?_, fun hz => ?_⟩⟩
    · rw [findFrom_eq (p := fun u => decide (N c u ≥ N c t + mi)) (u := t) (Int.le_refl _) (by omega) (decide_eq_true (by omega)) fun s h3 h4 => by omega] at hq
      exact hq H12 k12
    have ed : IntKind.wrap .i64 (Int.tdiv t 1440) = t / 1440 := by rw [Int.tdiv_eq_ediv_of_nonneg t0, wrap64 (by omega) (by omega)]
    have et : IntKind.wrap .i64 (t + 500000) = t + 500000 := by rw [wrap64 (by omega) (by omega)]
    rw [ed, et]
    refine ⟨fun m q v w d H' => t / 1440 ≤ d ∧ d + m = (t + 500000) / 1440 + 1 ∧ v = 0 ∧ w = 0 ∧ Keep H.length H H' ∧ 0 < q ∧ q ≤ mi ∧ N c (max t (d * 1440)) = N c t + mi - q, ((t + 500000) / 1440 + 1 - t / 1440).toNat, ⟨Int.le_refl _, by omega, rfl, rfl, k12, by omega, Int.le_refl _, by rw [show max t (t / 1440 * 1440) = t from by omega]; omega⟩, ?_⟩
    rintro m q _ _ d H' ⟨hd, hm, rfl, rfl, hk, hq0, hq1, hN⟩
    have e1 : IntKind.wrap .i64 (d * 1440) = d * 1440 := by rw [wrap64 (by omega) (by omega)]
    have e2 : IntKind.wrap .i64 (d + 1) = d + 1 := by rw [wrap64 (by omega) (by omega)]
    rw [e1, e2]
    refine ⟨fun hle => ?_, fun hgt => ?_⟩
    · refine h2 (hc.keep hk) ho (by omega) (by omega) (Nat.le_trans hfl hk.len) fun r H37 k37 hr => ?_
      have hv := hr.arrP tSpn.plain
      have hs := hv.small
      have hln := spans_len ho (d := d)
      have hso := (spans_ok ho (d := d)).1
      refine ⟨_, hv.len, fun m' q v w i H' => ∃ (j : Nat) (p : Int), i = j ∧ j + m' = (spans c d).length ∧ v = 0 ∧ w = 0 ∧ Keep H37.length H37 H' ∧ 0 < q ∧ q ≤ mi ∧ d * 1440 ≤ p ∧ p ≤ d * 1440 + 1440 ∧ (∀ k (hk : k < (spans c d).length), k < j → (spans c d)[k].2 ≤ p) ∧ (∀ k (hk : k < (spans c d).length), j ≤ k → p ≤ (spans c d)[k].1) ∧ N c (max t p) = N c t + mi - q, (spans c d).length,
        ⟨0, d * 1440, rfl, by omega, rfl, rfl, Keep.refl _, hq0, hq1, Int.le_refl _, by omega, fun k _ h => by omega, fun k hk _ => (hso _ (List.getElem_mem hk)).lo, hN⟩, ?_⟩
      rintro m' q _ _ _ H54 ⟨j, p, rfl, hm', rfl, rfl, hk', hq0, hq1, p0, p1, hp1, hp2, hN⟩
      have kk := (hk.call k37).call hk'
      refine ⟨fun hlt => ?_, fun hge => ?_⟩
      · have hil : j < (spans c d).length := by omega
        refine ⟨_, _, (hv.keep hk').spn hil, fun H58 d58 => ?_⟩
        have hmem := List.getElem_mem hil
        have o1 := (hso _ hmem).lo
        have o2 := (hso _ hmem).hi
        have o3 := (hso _ hmem).lt
        have hps := hp2 j hil (Nat.le_refl _)
        have hflat : N c (max t (spans c d)[j].1) = N c (max t p) := N_flat (by omega) (by omega) fun s h3 h4 => op_out ho (d := d) (by omega) (by omega) fun x hx hin => by
          obtain ⟨k, hk2, rfl⟩ := List.getElem_of_mem hx
          rcases Nat.lt_trichotomy k j with h5 | h5 | h5
          · have := hp1 k hk2 h5; omega
          · subst h5; omega
          · have := spans_lt ho h5 hk2
            omega
        have hrun : ∀ r, max t (spans c d)[j].1 ≤ r → r ≤ (spans c d)[j].2 → N c r = N c t + mi - q + (r - max t (spans c d)[j].1) := fun r h3 h4 => by
          rw [N_run (a := max t (spans c d)[j].1) (by omega) h3 fun s h5 h6 => op_in ho (by omega) hmem (by omega) (by omega), hflat, hN]
        rw [imax_eq, imax_eq]
        have e3 : IntKind.wrap .i64 ((spans c d)[j].2 - max (spans c d)[j].1 t) = (spans c d)[j].2 - max (spans c d)[j].1 t := by rw [wrap64 (by omega) (by omega)]
        have e4 : IntKind.wrap .i64 (max (spans c d)[j].1 t + q) = max (spans c d)[j].1 t + q := by rw [wrap64 (by omega) (by omega)]
        have e5 : IntKind.wrap .i64 (q - max 0 ((spans c d)[j].2 - max (spans c d)[j].1 t)) = q - max 0 ((spans c d)[j].2 - max (spans c d)[j].1 t) := by rw [wrap64 (by omega) (by omega)]
        rw [e3, e4, e5]
        have k58 := kk.call d58.keep
        refine ⟨fun hbig => ?_, fun hsmall => ?_⟩
        · have hu1 := hrun (max (spans c d)[j].1 t + q) (by omega) (by omega)
          have hu2 := hrun (max (spans c d)[j].1 t + q - 1) (by omega) (by omega)
          have hbef : ∀ s, t ≤ s → s < max (spans c d)[j].1 t + q → decide (N c s ≥ N c t + mi) = false := fun s h3 h4 => decide_eq_false (by
            have := (N_mono (c := c) (a := s) (b := max (spans c d)[j].1 t + q - 1) (by omega) (by omega)).1
            omega)
          refine ⟨fun hle2 => ?_, fun hgt2 => ?_⟩
          · rw [findFrom_eq (p := fun u => decide (N c u ≥ N c t + mi)) (u := max (spans c d)[j].1 t + q) (by omega) (by omega) (decide_eq_true (by omega)) hbef] at hq
            exact hq H58 k58
          · rw [findFrom_none fun s h3 h4 => hbef s h3 (by omega)] at hq
            exact hq H58 k58
        · refine ⟨m' - 1, by omega, j + 1, (spans c d)[j].2, wsucc hil hs, by omega, rfl, rfl, hk'.call d58.keep, by omega, by omega, by omega, o2, fun k hk2 h5 => ?_, fun k hk2 h5 => spans_lt ho (by omega) hk2, ?_⟩
          · rcases Nat.lt_or_eq_of_le (Nat.le_of_lt_succ h5) with h6 | h6
            · have := hp1 k hk2 h6; omega
            · subst h6; exact Int.le_refl _
          · by_cases h6 : (spans c d)[j].2 ≤ t
            · have h7 : max t (spans c d)[j].1 = t := by omega
              rw [h7] at hflat
              rw [show max t (spans c d)[j].2 = t from by omega]; omega
            · have := hrun (spans c d)[j].2 (by omega) (Int.le_refl _)
              rw [show max t (spans c d)[j].2 = (spans c d)[j].2 from by omega]; omega
      · refine ⟨m - 1, by omega, by omega, by omega, rfl, rfl, kk, hq0, hq1, ?_⟩
        rw [← hN]
        refine N_flat (by omega) (by omega) fun s h3 h4 => op_out ho (d := d) (by omega) (by omega) fun x hx hin => ?_
        obtain ⟨k, hk2, rfl⟩ := List.getElem_of_mem hx
        have := hp1 k hk2 (by omega)
        omega
    · rw [findFrom_none fun s h3 h4 => decide_eq_false (by
        have := (N_mono (c := c) (a := s) (b := max t (d * 1440)) (by omega) (by omega)).1
        omega)] at hq
      exact hq H' hk
  · rw [if_neg he] at hq hxy
    refine ⟨fun _ => ?_, fun hn => ?_⟩
    · have := hq H12 k12
      rw [← hxy] at this; exact this
    · exact absurd (fun h => he (by rw [← hxy]; exact h.1)) hn

end Go.RM
