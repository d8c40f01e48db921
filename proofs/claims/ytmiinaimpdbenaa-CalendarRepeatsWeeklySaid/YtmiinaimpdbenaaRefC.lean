/-
  The reference's functions on lists of numbers: what they return.
-/
import Derived.Test.YtmiinaimpdbenaaRefW
import Derived.Test.YtmiinaimpdbenaaRmLib
namespace Go.RM
set_option linter.unusedSimpArgs false
set_option linter.unusedVariables false

abbrev i64 (n : Int) : AV := .int .i64 n
abbrev flt (c i : Int) : AV := .agg [.int .i64 c, .int .i64 i]

/-- One more, for a place in a list. -/
theorem wsucc {i n : Nat} (h : i < n) (hn : n ≤ 9223372036854775807) : IntKind.wrap .i64 ((i : Int) + 1) = ((i + 1 : Nat) : Int) := by
  rw [wrap64 (by omega) (by omega)]; omega
theorem wpred {i : Nat} (h : 0 < i) (hn : i ≤ 9223372036854775807) : IntKind.wrap .i64 ((i : Int) - 1) = ((i - 1 : Nat) : Int) := by
  rw [wrap64 (by omega) (by omega)]; omega

variable {F : Nat → Option RFunc}

abbrev FFaultC (F : Nat → Option RFunc) (f : Nat) : Prop := ∀ {fl H Q c i}, (∀ H', Keep H.length H H' → Q (flt c i) H') → Ret F fl f [i64 c, i64 i] H Q
theorem fFault_c {f : Nat} (hF : F f = some rf_FFault) : FFaultC F f := fun hq => by
  refine v_FFault hF _ _ ?_
  intro H2 h; exact hq H2 h.keep

abbrev FHasC (F : Nat → Option RFunc) (f : Nat) : Prop := ∀ {fl H Q v l n}, Ints H v l → Q (.bool (decide (n ∈ l))) H → Ret F fl f [v, i64 n] H Q

theorem mem_drop {n : Int} {l : List Int} {i : Nat} (h : i < l.length) : (n ∈ l.drop i) ↔ (l[i] = n ∨ n ∈ l.drop (i + 1)) := by
  rw [List.drop_eq_getElem_cons h, List.mem_cons, eq_comm]

theorem fHas_c {f : Nat} (hF : F f = some rf_FHas) : FHasC F f := fun {fl H Q v l n} hv hq => by
  refine v_FHas hF _ _ ?_
  have hs := hv.small
  refine ⟨fun m v => ∃ i : Nat, v = i ∧ i + m = l.length ∧ (n ∈ l ↔ n ∈ l.drop i), l.length, ⟨0, rfl, by omega, by simp⟩, ?_⟩
  rintro m _ ⟨i, rfl, hm, hi⟩
  refine ⟨_, hv.len, fun hlt => ?_, fun hge => ?_⟩
  · have hil : i < l.length := by omega
    refine ⟨_, hv.int hil, fun he => ?_, fun hne => ?_⟩
    · have : n ∈ l := hi.2 ((mem_drop hil).2 (.inl he))
      rw [decide_eq_true this] at hq; exact hq
    · refine ⟨m - 1, by omega, i + 1, wsucc hil hs, by omega, hi.trans ((mem_drop hil).trans ?_)⟩
      simp [hne]
  · have : ¬ n ∈ l := fun h => by
      have := hi.1 h
      rw [List.drop_eq_nil_of_le (by omega)] at this; cases this
    rw [decide_eq_false this] at hq; exact hq

abbrev FEqualIntsC (F : Nat → Option RFunc) (f : Nat) : Prop := ∀ {fl H Q a b l m}, Ints H a l → Ints H b m → Q (.bool (decide (l = m))) H → Ret F fl f [a, b] H Q
theorem fEqualInts_c {f : Nat} (hF : F f = some rf_FEqualInts) : FEqualIntsC F f := fun {fl H Q a b l m} ha hb hq => by
  refine v_FEqualInts hF _ _ ?_
  have hs := ha.small
  refine ⟨_, ha.len, _, hb.len, fun hne => ?_, fun he => ?_⟩
  · rw [decide_eq_false (fun h => hne (by rw [h]))] at hq; exact hq
  · have he : l.length = m.length := by omega
    refine ⟨fun k v => ∃ i : Nat, v = i ∧ i + k = l.length ∧ (l.take i = m.take i), l.length, ⟨0, rfl, by omega, by simp⟩, ?_⟩
    rintro k _ ⟨i, rfl, hk, hi⟩
    refine ⟨_, ha.len, fun hlt => ?_, fun hge => ?_⟩
    · have hil : i < l.length := by omega
      refine ⟨_, ha.int hil, _, hb.int (by omega), fun hne => ?_, fun heq => ?_⟩
      · rw [decide_eq_false (fun h => hne (by subst h; rfl))] at hq; exact hq
      · refine ⟨k - 1, by omega, i + 1, wsucc hil hs, by omega, ?_⟩
        have heq : l[i] = m[i] := by omega
        rw [List.take_succ_eq_append_getElem hil, List.take_succ_eq_append_getElem (by omega), hi, heq]
    · rw [List.take_of_length_le (by omega), List.take_of_length_le (by omega)] at hi
      rw [decide_eq_true hi] at hq; exact hq

abbrev FWithoutC (F : Nat → Option RFunc) (f : Nat) : Prop := ∀ {fl H Q v l n}, Ints H v l → fl ≤ H.length → l.length ≤ 2 ^ 30 → (∀ w H', Keep H.length H H' → Acc H tInt H' w (l.filter (fun x => x != n)) → Q w H') → Ret F fl f [v, i64 n] H Q
theorem fWithout_c {f : Nat} (hF : F f = some rf_FWithout) : FWithoutC F f := fun {fl H Q v l n} hv hfl hl hq => by
  refine v_FWithout hF _ _ ?_
  refine ⟨fun m v w H' => ∃ i : Nat, v = i ∧ i + m = l.length ∧ Keep H.length H H' ∧ Acc H tInt H' w ((l.take i).filter (fun x => x != n)), l.length, ⟨0, rfl, by omega, Keep.refl H, by simpa using Acc.nil⟩, ?_⟩
  rintro m _ w H' ⟨i, rfl, hm, hk, hw⟩
  refine ⟨_, (hv.keep hk).len, fun hlt => ?_, fun hge => ?_⟩
  · have hil : i < l.length := by omega
    have hlen : ((l.take i).filter (fun x => x != n)).length ≤ i := by
      have := List.length_filter_le (fun x => x != n) (l.take i)
      rw [List.length_take] at this; omega
    refine ⟨_, (hv.keep hk).int hil, fun hne => ⟨_, (hv.keep hk).int hil, fun b H1 hb => ?_⟩, fun he => ?_⟩
    · obtain ⟨w', H2, h1, h2, h3, _⟩ := hw.push (fl := fl) (free := true) (bytes := 8) (a := l[i]) rfl hb hk hfl (by omega) (by omega)
      refine ⟨w', H2, h1, m - 1, by omega, i + 1, wsucc hil hv.small, by omega, h3, ?_⟩
      rw [List.take_succ_eq_append_getElem hil, List.filter_append]
      have : [l[i]].filter (fun x => x != n) = [l[i]] := by simp [hne]
      rw [this]; exact h2
    · refine ⟨m - 1, by omega, i + 1, wsucc hil hv.small, by omega, hk, ?_⟩
      rw [List.take_succ_eq_append_getElem hil, List.filter_append]
      have : [l[i]].filter (fun x => x != n) = [] := by simp at he; simp [he]
      rw [this, List.append_nil]; exact hw
  · rw [List.take_of_length_le (by omega)] at hw
    exact hq w H' hk hw

/-- The numbers from 0 to n-1. -/
def upTo (n : Nat) : List Int := (List.range n).map fun i : Nat => (i : Int)
theorem upTo_len (n : Nat) : (upTo n).length = n := by simp [upTo]
theorem upTo_succ (n : Nat) : upTo (n + 1) = upTo n ++ [(n : Int)] := by simp [upTo, List.range_succ]
theorem mem_upTo {n : Nat} {x : Int} : x ∈ upTo n ↔ 0 ≤ x ∧ x < n := by
  simp only [upTo, List.mem_map, List.mem_range]
  constructor
  · rintro ⟨i, h, rfl⟩; omega
  · rintro ⟨h1, h2⟩; exact ⟨x.toNat, by omega, by omega⟩

abbrev FFirstC (F : Nat → Option RFunc) (f : Nat) : Prop := ∀ {fl H Q} {n : Int}, fl ≤ H.length → n ≤ 2 ^ 30 → (∀ w H', Keep H.length H H' → Acc H tInt H' w (upTo n.toNat) → Q w H') → Ret F fl f [i64 n] H Q
theorem fFirst_c {f : Nat} (hF : F f = some rf_FFirst) : FFirstC F f := fun {fl H Q n} hfl hl hq => by
  refine v_FFirst hF _ ?_
  refine ⟨fun m v w H' => ∃ i : Nat, v = i ∧ i + m = n.toNat ∧ Keep H.length H H' ∧ Acc H tInt H' w (upTo i), n.toNat, ⟨0, rfl, by omega, Keep.refl H, Acc.nil⟩, ?_⟩
  rintro m _ w H' ⟨i, rfl, hm, hk, hw⟩
  refine ⟨fun hlt b H1 hb => ?_, fun hge => ?_⟩
  · obtain ⟨w', H2, h1, h2, h3, _⟩ := hw.push (fl := fl) (free := true) (bytes := 8) (a := (i : Int)) rfl hb hk hfl (by rw [upTo_len]; omega) (by omega)
    refine ⟨w', H2, h1, m - 1, by omega, i + 1, wsucc (n := n.toNat) (by omega) (by omega), by omega, h3, ?_⟩
    rw [upTo_succ]; exact h2
  · have : i = n.toNat := by omega
    subst this
    exact hq w H' hk hw

end Go.RM
