/-
  Package calendar and its reference: counting and searching.
-/
import Derived.Test.YtmiinaimpdbenaaCalC2
namespace Go.RM
set_option linter.unusedSimpArgs false
set_option linter.unusedVariables false
set_option maxRecDepth 4000
open Cal

variable {F : Nat → Option RFunc}

/-! ### Searches, plainly -/

/-- The first of n times from t on that passes. -/
def findFrom (p : Int → Bool) : Int → Nat → Option Int
  | _, 0 => none
  | t, n + 1 => if p t then some t else findFrom p (t + 1) n

theorem findFrom_eq {p : Int → Bool} : ∀ {n : Nat} {t u : Int}, t ≤ u → u < t + n → p u = true → (∀ s, t ≤ s → s < u → p s = false) → findFrom p t n = some u
  | 0, t, u, h1, h2, _, _ => by omega
  | n + 1, t, u, h1, h2, hp, hn => by
    rw [findFrom]
    by_cases e : t = u
    · subst e; rw [if_pos hp]
    · rw [if_neg (by rw [hn t (Int.le_refl _) (by omega)]; decide)]
      exact findFrom_eq (by omega) (by omega) hp fun s h3 h4 => hn s (by omega) h4
theorem findFrom_none {p : Int → Bool} : ∀ {n : Nat} {t : Int}, (∀ s, t ≤ s → s < t + n → p s = false) → findFrom p t n = none
  | 0, t, _ => rfl
  | n + 1, t, h => by
    rw [findFrom, if_neg (by rw [h t (Int.le_refl _) (by omega)]; decide)]
    exact findFrom_none fun s h3 h4 => h s (by omega) (by omega)
theorem findFrom_spec {p : Int → Bool} : ∀ {n : Nat} {t u : Int}, findFrom p t n = some u → t ≤ u ∧ u < t + n ∧ p u = true ∧ ∀ s, t ≤ s → s < u → p s = false
  | 0, t, u, h => by cases h
  | n + 1, t, u, h => by
    rw [findFrom] at h
    split at h
    · rename_i hp; cases h; exact ⟨Int.le_refl _, by omega, hp, fun s h1 h2 => by omega⟩
    · rename_i hp
      obtain ⟨a, b, c, d⟩ := findFrom_spec h
      refine ⟨by omega, by omega, c, fun s h1 h2 => ?_⟩
      by_cases e : s = t
      · subst e; simpa using hp
      · exact d s (by omega) h2
theorem findFrom_no {p : Int → Bool} : ∀ {n : Nat} {t : Int}, findFrom p t n = none → ∀ s, t ≤ s → s < t + n → p s = false
  | 0, t, _, s, h1, h2 => by omega
  | n + 1, t, h, s, h1, h2 => by
    rw [findFrom] at h
    split at h
    · cases h
    · rename_i hp
      by_cases e : s = t
      · subst e; simpa using hp
      · exact findFrom_no h s (by omega) (by omega)

theorem U_bd {c : Calr} (ho : Ok c) {t : Int} (ht : 0 ≤ t) : 0 ≤ U c t ∧ U c t ≤ t := by
  have hb : ∀ n : Nat, 0 ≤ U c n ∧ U c n ≤ n := by
    intro n
    induction n with
    | zero =>
      have : U c (0 : Nat) = 0 := by
        unfold U
        rw [show ((0 : Nat) : Int) / 10080 = 0 from rfl, show ((0 : Nat) : Int) % 10080 = 0 from rfl, (restW_all ho.win).2]; omega
      omega
    | succ n ih =>
      have h1 := U_succ ho (t := (n : Int)) (by omega)
      have h2 := b2n_le (weekly c n)
      have e : ((n + 1 : Nat) : Int) = (n : Int) + 1 := by omega
      rw [e, h1]; omega
  have := hb t.toNat
  have e : ((t.toNat : Nat) : Int) = t := by omega
  rw [e] at this; exact this

/-! ### The reference's functions -/

theorem weekW_bd : ∀ {l : List Win}, (∀ w ∈ l, winOk w) → 0 ≤ weekW l ∧ weekW l ≤ 1440 * l.length
  | [], _ => by simp [weekW]
  | w :: l, h => by
    have ih := weekW_bd (l := l) fun x hx => h x (by simp [hx])
    have hw := h w (by simp)
    unfold winOk at hw
    rw [weekW, List.length_cons]; omega
theorem restW_bd {m : Int} : ∀ {l : List Win}, (∀ w ∈ l, winOk w) → 0 ≤ restW m l ∧ restW m l ≤ 1440 * l.length
  | [], _ => by simp [restW]
  | w :: l, h => by
    have ih := restW_bd (m := m) (l := l) fun x hx => h x (by simp [hx])
    have hw := h w (by simp)
    unfold winOk at hw
    rw [restW, List.length_cons]; omega
theorem weekW_take {l : List Win} {i : Nat} (h : i < l.length) : weekW (l.take (i + 1)) = weekW (l.take i) + (l[i].2.2 - l[i].2.1) := by
  have : ∀ (a b : List Win), weekW (a ++ b) = weekW a + weekW b := by
    intro a b
    induction a with
    | nil => simp [weekW]
    | cons x a ih => simp only [List.cons_append, weekW, ih]; omega
  rw [List.take_succ_eq_append_getElem h, this]; simp [weekW]
theorem restW_take {m : Int} {l : List Win} {i : Nat} (h : i < l.length) : restW m (l.take (i + 1)) = restW m (l.take i) + max 0 (min (l[i].2.2 - l[i].2.1) (m - (1440 * l[i].1 + l[i].2.1))) := by
  have : ∀ (a b : List Win), restW m (a ++ b) = restW m a + restW m b := by
    intro a b
    induction a with
    | nil => simp [restW]
    | cons x a ih => simp only [List.cons_append, restW, ih]; omega
  rw [List.take_succ_eq_append_getElem h, this]; simp [restW]

abbrev UptoC (F : Nat → Option RFunc) (f : Nat) : Prop := ∀ {fl H Q w h} {c : Calr} {t : Int}, CalA H w h c → Ok c → 0 ≤ t → t ≤ 20000000 → (∀ H', Keep H.length H H' → Q (i64 (U c t)) H') → Ret F fl f [calV w h, i64 t] H Q
theorem upto_c {f : Nat} (hF : F f = some rf_FupTo) : UptoC F f := fun {fl H Q w h c t} hc ho t0 t1 hq => by
  refine v_FupTo hF _ _ _ ?_
  intro H3 d3
  have hws := hc.ws.small
  have hnw := ho.nw
  have ed : Int.tdiv t 10080 = t / 10080 := Int.tdiv_eq_ediv_of_nonneg t0
  have em : Int.tmod t 10080 = t % 10080 := Int.tmod_eq_emod_of_nonneg t0
  rw [ed, em]
  refine ⟨fun m i wk rs H' => ∃ j : Nat, i = j ∧ j + m = c.ws.length ∧ Keep H.length H H' ∧ wk = weekW (c.ws.take j) ∧ rs = restW (t % 10080) (c.ws.take j), c.ws.length, ⟨0, rfl, by omega, d3.keep, rfl, rfl⟩, ?_⟩
  rintro m _ _ _ H' ⟨j, rfl, hm, hk, rfl, rfl⟩
  have hbt : ∀ w ∈ c.ws.take j, winOk w := fun w hw => ho.win w (List.mem_of_mem_take hw)
  have b1 := weekW_bd hbt
  have b2 := restW_bd (m := t % 10080) hbt
  have hlt' : (c.ws.take j).length ≤ 12 := by rw [List.length_take]; omega
  refine ⟨_, (hc.ws.keep hk).len, fun hlt => ?_, fun hge => ?_⟩
  · have hil : j < c.ws.length := by omega
    have hw := ho.win _ (List.getElem_mem hil)
    unfold winOk at hw
    refine ⟨_, _, _, (hc.ws.keep hk).win hil, fun H20 d20 => ⟨m - 1, by omega, j + 1, wsucc hil hws, by omega, hk.call d20.keep, ?_, ?_⟩⟩
    · have e1 : IntKind.wrap .i64 (c.ws[j].2.2 - c.ws[j].2.1) = c.ws[j].2.2 - c.ws[j].2.1 := by rw [wrap64 (by omega) (by omega)]
      rw [e1, wrap64 (by omega) (by omega), weekW_take hil]
    · have e1 : IntKind.wrap .i64 (c.ws[j].2.2 - c.ws[j].2.1) = c.ws[j].2.2 - c.ws[j].2.1 := by rw [wrap64 (by omega) (by omega)]
      have e2 : IntKind.wrap .i64 (1440 * c.ws[j].1) = 1440 * c.ws[j].1 := by rw [wrap64 (by omega) (by omega)]
      have e3 : IntKind.wrap .i64 (1440 * c.ws[j].1 + c.ws[j].2.1) = 1440 * c.ws[j].1 + c.ws[j].2.1 := by rw [wrap64 (by omega) (by omega)]
      have e4 : IntKind.wrap .i64 (t % 10080 - (1440 * c.ws[j].1 + c.ws[j].2.1)) = t % 10080 - (1440 * c.ws[j].1 + c.ws[j].2.1) := by rw [wrap64 (by omega) (by omega)]
      rw [e1, e2, e3, e4, imin_eq, imax_eq, wrap64 (by omega) (by omega), restW_take hil]
  · have hj : c.ws.take j = c.ws := List.take_of_length_le (by omega)
    rw [hj] at b1 b2 ⊢
    have e1 : IntKind.wrap .i64 (t / 10080) = t / 10080 := by rw [wrap64 (by omega) (by omega)]
    have hq1 : t / 10080 ≤ 2000 := by omega
    have hq0 : 0 ≤ t / 10080 := by omega
    have hmul : t / 10080 * weekW c.ws ≤ 2000 * 17280 := Int.mul_le_mul hq1 (by omega) b1.1 (by decide)
    have hmul0 : 0 ≤ t / 10080 * weekW c.ws := Int.mul_nonneg hq0 b1.1
    have e2 : IntKind.wrap .i64 (t / 10080 * weekW c.ws) = t / 10080 * weekW c.ws := by rw [wrap64 (by omega) (by omega)]
    rw [e1, e2, wrap64 (by omega) (by omega)]
    exact hq H' hk

theorem lost_app {c : Calr} {t : Int} (a b : List Int) : lost c t (a ++ b) = lost c t a + lost c t b := by
  induction a with
  | nil => simp [lost]
  | cons x a ih => simp only [List.cons_append, lost, ih]; omega
theorem lost_bd {c : Calr} (ho : Ok c) {t : Int} (t0 : 0 ≤ t) : ∀ {l : List Int}, (∀ h ∈ l, 0 ≤ h ∧ h ≤ 6944) → -20000000 * (l.length : Int) ≤ lost c t l ∧ lost c t l ≤ 20000000 * l.length
  | [], _ => by simp [lost]
  | h :: l, hl => by
    have ih := lost_bd ho t0 (l := l) fun x hx => hl x (by simp [hx])
    have hh := hl h (by simp)
    rw [lost, List.length_cons]
    have x1 := U_bd ho (t := 1440 * h) (by omega)
    split
    · have x2 := U_bd ho (t := min t (1440 * h + 1440)) (by omega)
      omega
    · omega

abbrev MinutesC (F : Nat → Option RFunc) (f : Nat) : Prop := ∀ {fl H Q w h} {c : Calr} {t : Int}, CalA H w h c → Ok c → 0 ≤ t → t ≤ 20000000 → (∀ H', Keep H.length H H' → Q (i64 (N c t)) H') → Ret F fl f [calV w h, i64 t] H Q
theorem minutes_c {f n1 : Nat} (hF : F f = some (rf_FMinutes n1)) (h1 : UptoC F n1) : MinutesC F f := fun {fl H Q w h c t} hc ho t0 t1 hq => by
  refine v_FMinutes hF _ _ _ ?_
  intro H3 d3
  have hhs := hc.hs.small
  have hnh := ho.nh
  have ub := U_bd ho t0
  refine h1 (hc.keep d3.keep) ho t0 t1 fun H5 k5 => ⟨_, rfl, ?_⟩
  refine ⟨fun m i n H' => ∃ j : Nat, i = j ∧ j + m = c.hs.length ∧ Keep H.length H H' ∧ n = U c t - lost c t (c.hs.take j), c.hs.length, ⟨0, rfl, by omega, d3.keep.call k5, by simp [lost]⟩, ?_⟩
  rintro m _ _ H' ⟨j, rfl, hm, hk, rfl⟩
  have lb := lost_bd ho t0 (l := c.hs.take j) fun h hh => ho.hol h (List.mem_of_mem_take hh)
  have hlt' : (c.hs.take j).length ≤ 12 := by rw [List.length_take]; omega
  refine ⟨_, (hc.hs.keep hk).len, fun hlt => ?_, fun hge => ?_⟩
  · have hil : j < c.hs.length := by omega
    have hh := ho.hol _ (List.getElem_mem hil)
    have e1 : IntKind.wrap .i64 (1440 * c.hs[j]) = 1440 * c.hs[j] := by rw [wrap64 (by omega) (by omega)]
    have e2 : IntKind.wrap .i64 (1440 * c.hs[j] + 1440) = 1440 * c.hs[j] + 1440 := by rw [wrap64 (by omega) (by omega)]
    have hlost : lost c t (c.hs.take (j + 1)) = lost c t (c.hs.take j) + (if 1440 * c.hs[j] < t then U c (min t (1440 * c.hs[j] + 1440)) - U c (1440 * c.hs[j]) else 0) := by
      rw [List.take_succ_eq_append_getElem hil, lost_app]; simp [lost]
    refine ⟨_, (hc.hs.keep hk).int hil, ?_⟩
    rw [e1, e2]
    refine ⟨fun hlt2 => ?_, fun hge2 => ⟨m - 1, by omega, j + 1, wsucc hil hhs, by omega, hk, by rw [hlost, if_neg hge2]; omega⟩⟩
    rw [imin_eq]
    have x1 := U_bd ho (t := 1440 * c.hs[j]) (by omega)
    have x2 := U_bd ho (t := min t (1440 * c.hs[j] + 1440)) (by omega)
    refine h1 (hc.keep hk) ho (by omega) (by omega) fun H20 k20 => ⟨_, rfl, h1 (hc.keep (hk.call k20)) ho (by omega) (by omega) fun H23 k23 => ⟨_, rfl, m - 1, by omega, j + 1, wsucc hil hhs, by omega, (hk.call k20).call k23, ?_⟩⟩
    have e3 : IntKind.wrap .i64 (U c (min t (1440 * c.hs[j] + 1440)) - U c (1440 * c.hs[j])) = U c (min t (1440 * c.hs[j] + 1440)) - U c (1440 * c.hs[j]) := by rw [wrap64 (by omega) (by omega)]
    rw [e3, wrap64 (by omega) (by omega), hlost, if_pos hlt2]; omega
  · have hj : c.hs.take j = c.hs := List.take_of_length_le (by omega)
    rw [hj]
    have := hq H' hk
    rw [← M_N ho t0] at this; exact this

def reachR (c : Calr) (a n : Int) (span : Nat) : Int := match findFrom (fun u => decide (N c u ≥ n)) a (span + 1) with | some u => u | none => -1

abbrev ReachC (F : Nat → Option RFunc) (f : Nat) : Prop := ∀ {fl H Q w h} {c : Calr} {a n : Int} {span : Nat}, CalA H w h c → Ok c → 0 ≤ a → a ≤ 10000000 → span ≤ 500001 → (∀ H', Keep H.length H H' → Q (i64 (reachR c a n span)) H') → Ret F fl f [calV w h, i64 a, i64 n, i64 span] H Q
theorem reach_c {f n1 : Nat} (hF : F f = some (rf_FReach n1)) (h1 : MinutesC F n1) : ReachC F f := fun {fl H Q w h c a n span} hc ho a0 a1 hsp hq => by
  refine v_FReach hF _ _ _ _ _ ?_
  intro H5 d5
  have e1 : IntKind.wrap .i64 (a + span) = a + span := by rw [wrap64 (by omega) (by omega)]
  have e2 : IntKind.wrap .i64 (a - 1) = a - 1 := by rw [wrap64 (by omega) (by omega)]
  rw [e1, e2]
  refine h1 (hc.keep d5.keep) ho (by omega) (by omega) fun H7 k7 => ⟨_, rfl, fun hlt => ?_, fun hge => ?_⟩
  · have := hq H7 (d5.keep.call k7)
    unfold reachR at this
    rw [findFrom_none fun s h1 h2 => decide_eq_false (by
      have := (N_mono (c := c) (a := s) (b := a + span) (by omega) (by omega)).1
      omega)] at this
    exact this
  · refine ⟨fun m hi lo H' => a - 1 ≤ lo ∧ lo < hi ∧ hi ≤ a + span ∧ (hi - lo).toNat ≤ m ∧ N c hi ≥ n ∧ (lo = a - 1 ∨ N c lo < n) ∧ Keep H.length H H', span + 1, ⟨by omega, by omega, by omega, by omega, by omega, .inl rfl, d5.keep.call k7⟩, ?_⟩
    rintro m hi lo H' ⟨g1, g2, g3, gm, g4, g5, hk⟩
    have e3 : IntKind.wrap .i64 (hi - lo) = hi - lo := by rw [wrap64 (by omega) (by omega)]
    have e4 : IntKind.wrap .i64 (lo + hi) = lo + hi := by rw [wrap64 (by omega) (by omega)]
    rw [e3, e4]
    refine ⟨fun hgt => ?_, fun hle => ?_⟩
    · have hnn : 0 ≤ lo + hi := by omega
      have e5 : IntKind.wrap .i64 ((lo + hi).tdiv 2) = (lo + hi) / 2 := by rw [Int.tdiv_eq_ediv_of_nonneg hnn, wrap64 (by omega) (by omega)]
      rw [e5]
      refine h1 (hc.keep hk) ho (by omega) (by omega) fun H20 k20 => ⟨_, rfl, fun hp => ?_, fun hp => ?_⟩
      · exact ⟨m - 1, by omega, by omega, by omega, by omega, by omega, hp, g5, hk.call k20⟩
      · exact ⟨m - 1, by omega, by omega, by omega, by omega, by omega, g4, .inr (by omega), hk.call k20⟩
    · have := hq H' hk
      unfold reachR at this
      rw [findFrom_eq (p := fun u => decide (N c u ≥ n)) (u := hi) (by omega) (by omega) (decide_eq_true g4) fun s h1 h2 => decide_eq_false (by
        rcases g5 with g5 | g5
        · omega
        · have := (N_mono (c := c) (a := s) (b := lo) (by omega) (by omega)).1
          omega)] at this
      exact this

abbrev IsOpenC (F : Nat → Option RFunc) (f : Nat) : Prop := ∀ {fl H Q w h} {c : Calr} {t : Int}, CalA H w h c → Ok c → 0 ≤ t → t ≤ 20000000 → (∀ H', Keep H.length H H' → Q (.bool (op c t)) H') → Ret F fl f [calV w h, i64 t] H Q
theorem isOpen_c {f n1 : Nat} (hF : F f = some (rf_FIsOpen n1)) (h1 : FHasC F n1) : IsOpenC F f := fun {fl H Q w h c t} hc ho t0 t1 hq => by
  refine v_FIsOpen hF _ _ _ ?_
  intro H3 d3
  have hws := hc.ws.small
  have ed : IntKind.wrap .i64 (Int.tdiv t 1440) = t / 1440 := by rw [Int.tdiv_eq_ediv_of_nonneg t0, wrap64 (by omega) (by omega)]
  have e1 : IntKind.wrap .i64 (1440 * (t / 1440)) = 1440 * (t / 1440) := by rw [wrap64 (by omega) (by omega)]
  have e2 : IntKind.wrap .i64 (t - 1440 * (t / 1440)) = t - 1440 * (t / 1440) := by rw [wrap64 (by omega) (by omega)]
  have em : Int.tmod (t / 1440) 7 = (t / 1440) % 7 := Int.tmod_eq_emod_of_nonneg (by omega)
  rw [ed, e1, e2, em]
  refine h1 (hc.hs.keep d3.keep) ⟨_, rfl, fun hin => ?_, fun hnin => ?_⟩
  · have hin : t / 1440 ∈ c.hs := by simpa using hin
    have := hq H3 d3.keep
    unfold op at this
    simp only [hin, decide_true, Bool.not_true, Bool.false_and] at this
    exact this
  · have hnin : ¬ t / 1440 ∈ c.hs := by simpa using hnin
    have hop : op c t = weekly c t := by unfold op; simp [hnin]
    rw [hop] at hq
    refine ⟨fun m i H' => ∃ j : Nat, i = j ∧ j + m = c.ws.length ∧ Keep H.length H H' ∧ weekly c t = (c.ws.drop j).any (inWin (t % 10080)), c.ws.length, ⟨0, rfl, by omega, d3.keep, rfl⟩, ?_⟩
    rintro m _ H' ⟨j, rfl, hm, hk, hj⟩
    refine ⟨_, (hc.ws.keep hk).len, fun hlt => ?_, fun hge => ?_⟩
    · have hil : j < c.ws.length := by omega
      have hw := ho.win _ (List.getElem_mem hil)
      rw [List.drop_eq_getElem_cons hil, List.any_cons] at hj
      have hiff := week_day (d := t / 1440) rfl t0 c.ws[j] hw
      refine ⟨_, _, _, (hc.ws.keep hk).win hil, fun H21 d21 => ⟨fun hyes => ?_, fun hno => ⟨m - 1, by omega, j + 1, wsucc hil hws, by omega, hk.call d21.keep, ?_⟩⟩⟩
      · rw [hiff.2 (by omega), Bool.true_or] at hj
        rw [hj] at hq; exact hq H21 (hk.call d21.keep)
      · have : inWin (t % 10080) c.ws[j] = false := by
          rw [Bool.eq_false_iff]
          intro h
          have := hiff.1 h
          omega
        rw [hj, this, Bool.false_or]
    · rw [List.drop_eq_nil_of_le (by omega)] at hj
      rw [hj] at hq; exact hq H' hk

end Go.RM
