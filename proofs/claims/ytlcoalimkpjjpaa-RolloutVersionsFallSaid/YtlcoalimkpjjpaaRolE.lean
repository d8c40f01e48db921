import Derived.Test.YtlcoalimkpjjpaaRolW2
import Derived.Test.YtlcoalimkpjjpaaRolL
/-
  The laws of rollout: the example, the specification.
-/
namespace Go.RM
set_option linter.unusedSimpArgs false
set_option linter.unusedVariables false
set_option maxRecDepth 8000
open Rol

variable {F : Nat → Option RFunc}

def exP : PP := ⟨0, 0, 0, 50⟩
def exE : List Ev := [⟨1, 7, 0, 0, 0⟩, ⟨3, 0, 0, 0, 0⟩]
theorem exRun : runR 2 exP exE = ([⟨[7], 0, 0, 0⟩, ⟨[], 7, 0, 0⟩], (0, 0)) := by rfl

abbrev RExC (F : Nat → Option RFunc) (f : Nat) : Prop := ∀ {fl H Q}, fl ≤ H.length → (∀ H', Keep H.length H H' → Q (.bool true) H') → Ret F fl f [] H Q
theorem rolExample_c {f n1 n2 n3 n4 : Nat} (hF : F f = some (rf_LrolloutExample n1 n2 n3 n4)) (h1 : RunC F n1) (h2 : VersC F n2) (h3 : EqRingsC F n3) (h4 : FEqualIntsC F n4) : RExC F f := fun {fl H Q} hfl hq => by
  refine v_LrolloutExample hF ?_
  intro b0 H1 hb0
  have he : Arr tEv H1 (.slice b0 0 2 (some 2)) exE := NewB.arr (T := tEv) hb0 [evC ⟨1, 7, 0, 0, 0⟩, evC ⟨3, 0, 0, 0, 0⟩] rfl ⟨rfl, rfl, trivial⟩ rfl
  have k1 := hb0.keep
  refine h1 (p := exP) he (k1.fl hfl) fun w H5 k5 hw => ⟨_, _, _, rfl, fun H7 d7 => ?_⟩
  have k7 := (k1.call k5).call d7.keep
  refine h2 (p := exP) ((he.keep k5).keep d7.keep) (k7.fl hfl) fun v H11 k11 hv => ⟨_, _, _, rfl, fun H13 d13 => ?_⟩
  have k13 := (k7.call k11).call d13.keep
  rw [exRun] at hw hv ⊢
  refine ⟨fun _ => ?_, fun h => absurd ⟨rfl, rfl⟩ h⟩
  intro b14 H15 hb14 b16 H17 hb16
  have k17 := (k13.call hb14.keep).call hb16.keep
  have hi : Ints H15 (.slice b14 0 1 (some 1)) [7] := hb14.ints [7] rfl rfl
  have ha : Arr tRing H17 (.slice b16 0 2 (some 2)) [⟨[7], 0, 0, 0⟩, ⟨[], 7, 0, 0⟩] := NewB.arr (T := tRing) hb16 [ringC (.slice b14 0 1 (some 1), ⟨[7], 0, 0, 0⟩), ringC (.empty, ⟨[], 7, 0, 0⟩)] rfl ⟨⟨_, rfl, hi⟩, ⟨_, rfl, Arr.nil⟩, trivial⟩ rfl
  have kw : Keep H5.length H5 H17 := ((((d7.keep).call k11).call d13.keep).call hb14.keep).call hb16.keep
  have kv : Keep H11.length H11 H17 := ((d13.keep).call hb14.keep).call hb16.keep
  refine h3 (hw.keep kw) ha (fun _ => ⟨_, rfl, fun _ b21 H22 hb22 => ?_, fun h => absurd rfl h⟩) (fun h => absurd rfl h)
  refine h4 ((hv.arrP tInt.plain).keep (kv.call hb22.keep)) (hb22.ints [7, 7] rfl rfl) ⟨_, rfl, ?_⟩
  rw [show decide (([⟨[7], 0, 0, 0⟩, ⟨[], 7, 0, 0⟩] : List RS).map verR = [7, 7]) = true from rfl]
  exact hq H22 (k17.call hb22.keep)

/-! ### What Run hands back -/

theorem rinv_nil {n : Nat} {p : PP} : RInv n p [] := ⟨List.Pairwise.nil, fun _ h => by simp at h, fun _ h => by simp at h, List.Pairwise.nil, fun _ h => by simp at h, fun _ h => by simp at h⟩
theorem state_nil {n : Nat} : stateD n [] = List.replicate n zeroR := by
  unfold stateD
  have : (List.range n).map (rOf []) = (List.range n).map fun _ => zeroR := range_eq fun k _ => rfl
  rw [this, List.map_const']; simp

theorem runL_state {n : Nat} {p : PP} (hp : OkP p) (hn : 0 < n) : ∀ {evs : List Ev} {es : List Ent} {i : Nat}, RInv n p es → (runL p (stateD n es) i evs).2.1 = 0 → ∃ es', RInv n p es' ∧ runL p (stateD n es) i evs = (stateD n es', (0, 0))
  | [], es, i, h, _ => ⟨es, h, rfl⟩
  | e :: evs, es, i, h, h0 => by
    rw [runL] at h0 ⊢
    split at h0
    · rename_i hc; exact absurd h0 hc
    · rename_i hc
      rw [if_neg hc]
      obtain ⟨s1, s2⟩ := sim h hp hn e
      obtain ⟨s3, s4⟩ := s2 (Decidable.not_not.1 hc)
      rw [s3] at h0 ⊢
      exact runL_state hp hn s4 h0

theorem runR_state {rings : Int} {p : PP} {evs : List Ev} (h : (runR rings p evs).2.1 = 0) : ∃ n es, rings = (n : Nat) ∧ 0 < n ∧ OkP p ∧ RInv n p es ∧ runR rings p evs = (stateD n es, (0, 0)) ∧ evs.length ≤ 40 ∧ n ≤ 5 := by
  unfold runR at h ⊢
  split at h
  · rename_i hc; exact absurd h hc
  · rename_i hc
    rw [if_neg hc]
    obtain ⟨p1, p2, p3, p4⟩ := pre_ok (Decidable.not_not.1 hc)
    rw [← state_nil] at h ⊢
    obtain ⟨es, i1, i2⟩ := runL_state p4 (by omega) rinv_nil h
    exact ⟨rings.toNat, es, by omega, by omega, p4, i1, i2, p3, by omega⟩

/-! ### The versions fall -/

/-- What ring k runs: the last version that reached it. -/
theorem ver_eq {n : Nat} {p : PP} {es : List Ent} (h : RInv n p es) {k : Nat} (hk : k < n) : verR (rOf es k) = lastI ((es.filter fun e => decide ((k : Int) ≤ e.r)).map (·.v)) := by
  unfold verR
  rcases act_iff h (r := (k : Int)) (by omega) (by omega) with ⟨_, a2, _, _, a5⟩ | ⟨hi, _, a2, a3, _, _, a6⟩
  · rw [show ((k : Int)).toNat = k from by omega] at a2
    rw [if_pos a2, rOf_conf]
    congr 2
    apply List.filter_congr
    intro e he
    have := a5 e he
    rw [decide_eq_decide]; omega
  · rw [show ((k : Int)).toNat = k from by omega] at a3 a6
    generalize (actD es (k : Int)).toNat = i at hi a2 a3
    rw [if_neg a6, a3]
    have hlate : (es.drop (i + 1)).filter (fun e => decide ((k : Int) ≤ e.r)) = [] := by
      rw [List.filter_eq_nil_iff]
      intro x hx
      obtain ⟨j, hj, rfl⟩ := List.getElem_of_mem hx
      rw [List.length_drop] at hj
      rw [List.getElem_drop]
      have := List.pairwise_iff_getElem.1 h.mon i (i + 1 + j) hi (by omega) (by omega)
      simp only [decide_eq_true_eq]; omega
    have h0 := List.filter_append (p := fun e : Ent => decide ((k : Int) ≤ e.r)) (es.take i) (es.drop i)
    rw [List.take_append_drop, List.drop_eq_getElem_cons hi, List.filter_cons, hlate, if_pos (by simp only [decide_eq_true_eq]; omega)] at h0
    rw [h0, List.map_append]
    unfold lastI
    simp

theorem last_le {l m : List Int} (h : l.Pairwise (· < ·)) (hp : ∀ x ∈ l, 0 ≤ x) (hs : ∀ x ∈ m, x ∈ l) : lastI m ≤ lastI l := by
  have hmax : ∀ x ∈ l, x ≤ lastI l := fun x hx => by
    obtain ⟨i, hi, rfl⟩ := List.getElem_of_mem hx
    have hl : l.length - 1 < l.length := by omega
    have e : lastI l = l[l.length - 1] := by
      unfold lastI; rw [List.getLast?_eq_getElem?, List.getElem?_eq_getElem hl]
    rw [e]
    rcases Nat.lt_or_eq_of_le (show i ≤ l.length - 1 by omega) with h1 | h1
    · have := List.pairwise_iff_getElem.1 h i _ hi hl h1; omega
    · subst h1; exact Int.le_refl _
  cases hm : m.getLast? with
  | none =>
    have e : lastI m = 0 := by unfold lastI; rw [hm]
    rw [e]
    cases hl : l.getLast? with
    | none => unfold lastI; rw [hl]; exact Int.le_refl _
    | some y => unfold lastI; rw [hl]; exact hp y (List.mem_of_getLast? hl)
  | some y =>
    have e : lastI m = y := by unfold lastI; rw [hm]
    rw [e]
    exact hmax y (hs y (List.mem_of_getLast? hm))

theorem ver_fall {n : Nat} {p : PP} {es : List Ent} (h : RInv n p es) {i : Nat} (h1 : i + 1 < n) : verR (rOf es (i + 1)) ≤ verR (rOf es i) := by
  rw [ver_eq h h1, ver_eq h (by omega)]
  refine last_le ?_ ?_ ?_
  · rw [List.pairwise_map]; exact (h.inc.filter _).imp fun h => h
  · intro x hx
    obtain ⟨e, he, rfl⟩ := List.mem_map.1 hx
    have := h.pos e (List.mem_filter.1 he).1; omega
  · intro x hx
    obtain ⟨e, he, rfl⟩ := List.mem_map.1 hx
    obtain ⟨he, hr⟩ := List.mem_filter.1 he
    exact List.mem_map.2 ⟨e, List.mem_filter.2 ⟨he, by simp only [decide_eq_true_eq] at hr ⊢; omega⟩, rfl⟩

theorem fall_run {f n1 n2 : Nat} (hF : F f = some (rf_LRolloutVersionsFall n1 n2)) (h1 : VersC F n1) (h2 : RExC F n2) {fl : Nat} {H : Heap} {rings : Int} {p : PP} {v : AV} {evs : List Ev} (hv : Arr tEv H v evs) (hfl : fl ≤ H.length) : Ret F fl f [i64 rings, cnt p.b1 p.b2, i64 p.need, i64 p.pm, v] H tru := by
  refine v_LRolloutVersionsFall hF _ _ _ _ _ _ ?_
  intro H6 d6
  have k6 := d6.keep
  refine h1 (hv.keep k6) (k6.fl hfl) fun w H10 k10 hw => ⟨_, _, _, rfl, fun H12 d12 => ?_⟩
  have k12 := (k6.call k10).call d12.keep
  refine h2 (k12.fl hfl) fun H14 k14 => ⟨_, rfl, fun h => absurd rfl h, fun _ => ?_⟩
  have hw := ((hw.arrP tInt.plain).keep d12.keep).keep k14
  have hs := hw.small
  refine ⟨fun m i => ∃ j : Nat, i = j ∧ 1 ≤ j ∧ j + m = ((runR rings p evs).1.map verR).length + 1 ∧ j ≤ ((runR rings p evs).1.map verR).length + 1, ((runR rings p evs).1.map verR).length, ⟨1, rfl, by omega, by omega, by omega⟩, ?_⟩
  rintro m _ ⟨j, rfl, hj1, hm, hj2⟩
  refine ⟨_, hw.len, fun ⟨h0, hlt⟩ => ?_, fun hge => ?_⟩
  · obtain ⟨n, es, hn, hn0, hp, hi, hr, _, _⟩ := runR_state h0
    have hlen : ((runR rings p evs).1.map verR).length = n := by rw [hr]; simp [state_len]
    have hjn : j < n := by omega
    have e1 : ∀ k (hk : k < n), ((runR rings p evs).1.map verR)[k]'(by omega) = verR (rOf es k) := fun k hk => by simp [hr, stateD]
    rw [wpred (by omega) (by omega)]
    refine ⟨_, hw.int (i := j - 1) (by omega), _, hw.int (i := j) (by omega), fun hlt2 => ?_, fun _ => ⟨m - 1, by omega, j + 1, wsucc hjn (by omega), by omega, by omega, by omega⟩⟩
    have := ver_fall hi (i := j - 1) (by omega)
    rw [show j - 1 + 1 = j by omega] at this
    rw [e1 (j - 1) (by omega), e1 j hjn] at hlt2
    omega
  · refine ⟨_, hw.len, leafT ?_⟩
    by_cases h0 : (runR rings p evs).2.1 = 0
    · obtain ⟨n, es, hn, hn0, hp, hi, hr, _, _⟩ := runR_state h0
      rw [hr, hn]; simp [state_len]
    · simp [h0]

end Go.RM

/-
  The laws of rollout: one active ring; confirmed before the next.
-/
namespace Go.RM
set_option linter.unusedSimpArgs false
set_option linter.unusedVariables false
set_option maxRecDepth 8000
open Rol

variable {F : Nat → Option RFunc}

end Go.RM

/-
  The laws of rollout: the specification.
-/
namespace Go.RM
set_option linter.unusedSimpArgs false
set_option linter.unusedVariables false
set_option maxRecDepth 8000
open Rol

variable {F : Nat → Option RFunc}

end Go.RM

/-
  The laws of rollout: an aborted version is forgotten.
-/
namespace Go.RM
set_option linter.unusedSimpArgs false
set_option linter.unusedVariables false
set_option maxRecDepth 8000
open Rol

variable {F : Nat → Option RFunc}

theorem tEv.plain : tEv.Plain := fun h => h

end Go.RM

