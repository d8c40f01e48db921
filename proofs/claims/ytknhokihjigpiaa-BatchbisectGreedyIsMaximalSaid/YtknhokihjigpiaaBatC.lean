/-
  Package batchbisect: what its functions return, as functions of lists.
-/
import Derived.Test.YtknhokihjigpiaaBatW
import Derived.Test.YtknhokihjigpiaaSlcC
namespace Go.RM
set_option linter.unusedSimpArgs false
set_option linter.unusedVariables false

namespace Bat

/-- The error code of a set of changes, behind the change 'last'. -/
def setCode (n : Int) : Int → List Int → Int
  | _, [] => 0
  | last, c :: l => if c < 0 ∨ c ≥ n then 3 else if c ≤ last then 5 else setCode n c l

def vLoop (n : Int) : Nat → List (List Int) → Int × Int
  | _, [] => (0, 0)
  | i, s :: r => if s.length = 0 then (9, (i : Int)) else if setCode n (-1) s ≠ 0 then (setCode n (-1) s, (i : Int)) else vLoop n (i + 1) r

def fault (n : Int) (cs : List (List Int)) : Int × Int := if n < 0 ∨ n > 16 then (3, -1) else if cs.length > 8 then (2, -1) else vLoop n 0 cs

def failing (cs : List (List Int)) (set : List Int) : Bool := cs.any fun c => c.all fun x => decide (x ∈ set)

/-- Bisection, at most f rounds. -/
def bis (p : Int → Bool) : Nat → Int → Int → List Int → Int × List Int
  | 0, _, hi, t => (hi, t)
  | f + 1, lo, hi, t => if hi - lo > 1 then (if p ((lo + hi) / 2) then bis p f lo ((lo + hi) / 2) (t ++ [(lo + hi) / 2]) else bis p f ((lo + hi) / 2) hi (t ++ [(lo + hi) / 2])) else (hi, t)

end Bat
open Bat

abbrev ff (p : Int × Int) : AV := flt p.1 p.2

variable {F : Nat → Option RFunc}

theorem getD_drop {l : List Int} {i : Nat} (h : i < l.length) (d : Int) : l.getD i d = l[i] := by rw [List.getD_eq_getElem?_getD, List.getElem?_eq_getElem h]; rfl

abbrev SetCodeC (F : Nat → Option RFunc) (f : Nat) : Prop := ∀ {fl H Q n v l}, Ints H v l → Q (i64 (setCode n (-1) l)) H → Ret F fl f [i64 n, v] H Q

theorem bSetCode_c {f : Nat} (hF : F f = some rf_batchbisect_setCode) : SetCodeC F f := fun {fl H Q n v l} hv hq => by
  refine v_batchbisect_setCode hF _ _ ?_
  refine ⟨_, hv.len, fun m v => ∃ i : Nat, v = i ∧ i + m = l.length ∧ setCode n (-1) l = setCode n (((-1) :: l).getD i (-1)) (l.drop i), l.length, ⟨0, rfl, by omega, by simp⟩, ?_⟩
  rintro m _ ⟨i, rfl, hm, hi⟩
  have hs := hv.small
  refine ⟨fun hlt => ?_, fun hge => ?_⟩
  · have hil : i < l.length := by omega
    rw [List.drop_eq_getElem_cons hil, setCode] at hi
    have hnext : ∀ last, last = ((-1) :: l).getD i (-1) → ¬ (l[i] < 0 ∨ l[i] ≥ n) → ¬ l[i] ≤ last → ∃ m', m' < m ∧ ∃ i' : Nat, IntKind.wrap .i64 ((i : Int) + 1) = i' ∧ i' + m' = l.length ∧ setCode n (-1) l = setCode n (((-1) :: l).getD i' (-1)) (l.drop i') := fun last hl h1 h2 => by
      refine ⟨m - 1, by omega, i + 1, wsucc hil hs, by omega, ?_⟩
      rw [if_neg h1, ← hl, if_neg h2] at hi
      rw [hi, List.getD_cons_succ, getD_drop hil]
    refine ⟨_, hv.int hil, fun h => ?_, fun h => ⟨fun hpos => ?_, fun hz => ?_⟩⟩
    · rw [hi, if_pos h] at hq; exact hq
    · have h1 : ((-1) :: l).getD i (-1) = l[i - 1] := by
        obtain ⟨j, rfl⟩ : ∃ j, i = j + 1 := ⟨i - 1, by omega⟩
        rw [List.getD_cons_succ, getD_drop (by omega)]; rfl
      rw [wpred (by omega) (by omega)]
      refine ⟨_, hv.int (by omega), fun h2 => ?_, fun h2 => hnext _ h1.symm h h2⟩
      rw [hi, if_neg h, h1, if_pos h2] at hq; exact hq
    · obtain rfl : i = 0 := by omega
      exact hnext (-1) rfl h (by omega)
  · rw [List.drop_eq_nil_of_le (by omega)] at hi
    rw [hi] at hq; exact hq

theorem fSetCode_c {f : Nat} (hF : F f = some rf_FSetCode) : SetCodeC F f := fun {fl H Q n v l} hv hq => by
  refine v_FSetCode hF _ _ ?_
  refine ⟨fun m v last => ∃ i : Nat, v = i ∧ i + m = l.length ∧ setCode n (-1) l = setCode n last (l.drop i), l.length, ⟨0, rfl, by omega, by simp⟩, ?_⟩
  rintro m _ last ⟨i, rfl, hm, hi⟩
  refine ⟨_, hv.len, fun hlt => ?_, fun hge => ?_⟩
  · have hil : i < l.length := by omega
    have hg := hv.int hil
    rw [List.drop_eq_getElem_cons hil, setCode] at hi
    refine ⟨_, hg, fun h => ?_, fun h => ⟨_, hg, fun h1 => ?_, fun h1 => ⟨_, hg, fun h2 => ?_, fun h2 => ⟨_, hg, m - 1, by omega, i + 1, wsucc hil hv.small, by omega, ?_⟩⟩⟩⟩
    · rw [hi, if_pos (.inl h)] at hq; exact hq
    · rw [hi, if_pos (.inr h1)] at hq; exact hq
    · rw [hi, if_neg (by omega), if_pos h2] at hq; exact hq
    · rw [hi, if_neg (by omega), if_neg h2]
  · rw [List.drop_eq_nil_of_le (by omega)] at hi
    rw [hi] at hq; exact hq

abbrev Lists (H : Heap) (v : AV) (l : List (List Int)) : Prop := Arr (tArr tInt) H v l

abbrev CulFaultC (F : Nat → Option RFunc) (f : Nat) : Prop := ∀ {fl H Q n v cs}, Lists H v cs → (∀ H', Keep H.length H H' → Q (ff (fault n cs)) H') → Ret F fl f [i64 n, v] H Q

theorem bValidate_c {f n1 : Nat} (hF : F f = some (rf_batchbisect_Validate n1)) (h1 : SetCodeC F n1) : CulFaultC F f := fun {fl H Q n v cs} hv hq => by
  refine v_batchbisect_Validate hF _ _ ?_
  intro H2 hd
  have k2 := hd.keep
  refine ⟨fun h => ?_, fun h => ⟨_, (hv.keep k2).len, fun h8 => ?_, fun h8 => ⟨_, (hv.keep k2).len, ?_⟩⟩⟩
  · have := hq H2 k2; rw [fault, if_pos h] at this; exact this
  · have := hq H2 k2; rw [fault, if_neg h, if_pos (by omega)] at this; exact this
  · have hfe : fault n cs = vLoop n 0 cs := by rw [fault, if_neg h, if_neg (by omega)]
    rw [hfe] at hq
    refine ⟨fun m a b v H' => ∃ i : Nat, v = i ∧ i + m = cs.length ∧ a = 0 ∧ b = 0 ∧ Keep H.length H H' ∧ vLoop n 0 cs = vLoop n i (cs.drop i), cs.length, ⟨0, rfl, by omega, rfl, rfl, k2, by simp⟩, ?_⟩
    rintro m _ _ _ H' ⟨i, rfl, hm, rfl, rfl, hk, hi⟩
    refine ⟨fun hlt => ?_, fun hge => ?_⟩
    · have hil : i < cs.length := by omega
      obtain ⟨w, hw1, hw2⟩ := (hv.keep hk).arr hil
      rw [List.drop_eq_getElem_cons hil, vLoop] at hi
      refine ⟨w, hw1, _, hw2.len, fun h0 => ?_, fun h0 => h1 hw2 ⟨_, rfl, fun he => ?_, fun he => ?_⟩⟩
      · have := hq H' hk; rw [hi, if_pos (by omega)] at this; exact this
      · have := hq H' hk; rw [hi, if_neg (by omega), if_pos he] at this; exact this
      · refine ⟨m - 1, by omega, i + 1, wsucc hil hv.small, by omega, rfl, rfl, hk, ?_⟩
        rw [hi, if_neg (by omega), if_neg he]
    · rw [List.drop_eq_nil_of_le (by omega)] at hi
      have := hq H' hk; rw [hi] at this; exact this

theorem fCulFault_c {f n1 n2 : Nat} (hF : F f = some (rf_FCulpritsFault n1 n2)) (h1 : FFaultC F n1) (h2 : SetCodeC F n2) : CulFaultC F f := fun {fl H Q n v cs} hv hq => by
  refine v_FCulpritsFault hF _ _ ?_
  intro H2 hd
  have k2 := hd.keep
  refine ⟨fun h => h1 fun H3 k3 => ⟨_, _, rfl, ?_⟩, fun h => ⟨_, (hv.keep k2).len, fun h8 => h1 fun H3 k3 => ⟨_, _, rfl, ?_⟩, fun h8 => ?_⟩⟩
  · have := hq H3 (k2.call k3); rw [fault, if_pos h] at this; exact this
  · have := hq H3 (k2.call k3); rw [fault, if_neg h, if_pos (by omega)] at this; exact this
  · have hfe : fault n cs = vLoop n 0 cs := by rw [fault, if_neg h, if_neg (by omega)]
    rw [hfe] at hq
    refine ⟨fun m a b v H' => ∃ i : Nat, v = i ∧ i + m = cs.length ∧ a = 0 ∧ b = 0 ∧ Keep H.length H H' ∧ vLoop n 0 cs = vLoop n i (cs.drop i), cs.length, ⟨0, rfl, by omega, rfl, rfl, k2, by simp⟩, ?_⟩
    rintro m _ _ _ H' ⟨i, rfl, hm, rfl, rfl, hk, hi⟩
    refine ⟨_, (hv.keep hk).len, fun hlt => ?_, fun hge => ?_⟩
    · have hil : i < cs.length := by omega
      obtain ⟨w, hw1, hw2⟩ := (hv.keep hk).arr hil
      rw [List.drop_eq_getElem_cons hil, vLoop] at hi
      refine ⟨w, hw1, _, hw2.len, fun h0 => h1 fun H3 k3 => ⟨_, _, rfl, ?_⟩, fun h0 => ⟨w, hw1, h2 hw2 ⟨_, rfl, fun he => ⟨w, hw1, h2 hw2 ⟨_, rfl, h1 fun H3 k3 => ⟨_, _, rfl, ?_⟩⟩⟩, fun he => ?_⟩⟩⟩
      · have := hq H3 (hk.call k3); rw [hi, if_pos (by omega)] at this; exact this
      · have := hq H3 (hk.call k3); rw [hi, if_neg (by omega), if_pos he] at this; exact this
      · refine ⟨m - 1, by omega, i + 1, wsucc hil hv.small, by omega, rfl, rfl, hk, ?_⟩
        rw [hi, if_neg (by omega), if_neg he]
    · rw [List.drop_eq_nil_of_le (by omega)] at hi
      refine h1 fun H3 k3 => ⟨_, _, rfl, ?_⟩
      have := hq H3 (hk.call k3); rw [hi] at this; exact this

abbrev FailingC (F : Nat → Option RFunc) (f : Nat) : Prop := ∀ {fl H Q v w cs set}, Lists H v cs → Ints H w set → (∀ H', Keep H.length H H' → Q (.bool (failing cs set)) H') → Ret F fl f [v, w] H Q

theorem bFailing_c {f n1 n2 n3 n4 n5 : Nat} (hF : F f = some (rf_batchbisect_Failing n1 n2)) (h1 : F n1 = some (rf_batchbisect_Failingx1 n3 n4)) (h3 : F n3 = some (rf_batchbisect_Failingx1x1 n5)) (h2 : ContainsFuncLC F n2) (h4 : ContainsFuncIC F n4) (h5 : ContainsIC F n5) : FailingC F f := fun {fl H Q v w cs set} hv hw hq => by
  refine v_batchbisect_Failing hF _ _ ⟨hw.scal, fun b H4 hb => ?_⟩
  have kb := hb.keep
  refine h2 (hv.keep kb) (p := fun c => c.all fun x => decide (x ∈ set)) ?_ fun H' hk => ⟨_, rfl, hq H' (kb.call hk)⟩
  rintro c a H5 _ hk ⟨u, hu, hu2⟩
  obtain rfl : c = u := by simpa using hu
  refine v_batchbisect_Failingx1 h1 _ _ ?_
  refine h4 hu2 (p := fun x => !decide (x ∈ set)) ?_ fun H6 hk6 => ⟨_, rfl, ?_, hk6⟩
  · rintro c a H7 _ hk7 hc
    obtain rfl : c = i64 a := by simpa [tInt] using hc
    have hk' := hk.call hk7
    refine v_batchbisect_Failingx1x1 h3 _ _ ⟨b, 0, rfl, w, (hb.cell.keep hk').load, ?_⟩
    exact h5 ((hw.keep kb).keep hk') ⟨_, rfl, rfl, Keep.refl _⟩
  · congr 1
    rw [List.not_any_eq_all_not]; simp

theorem count_missing {set : List Int} {c : List Int} : (((c.filter fun x => !decide (x ∈ set)).length : Int) = 0) ↔ c.all (fun x => decide (x ∈ set)) = true := by
  rw [List.all_eq_true]
  constructor
  · intro h x hx
    have h0 : (c.filter fun x => !decide (x ∈ set)) = [] := List.eq_nil_of_length_eq_zero (by omega)
    have := List.filter_eq_nil_iff.1 h0 x hx
    simpa using this
  · intro h
    have : (c.filter fun x => !decide (x ∈ set)) = [] := List.filter_eq_nil_iff.2 fun x hx => by simpa using h x hx
    rw [this]; rfl

theorem fFailing_c {f n1 : Nat} (hF : F f = some (rf_FFailing n1)) (h1 : FHasC F n1) : FailingC F f := fun {fl H Q v w cs set} hv hw hq => by
  refine v_FFailing hF _ _ ?_
  refine ⟨fun m v H' => ∃ i : Nat, v = i ∧ i + m = cs.length ∧ Keep H.length H H' ∧ failing cs set = failing (cs.drop i) set, cs.length, ⟨0, rfl, by omega, Keep.refl H, by simp⟩, ?_⟩
  rintro m _ H' ⟨i, rfl, hm, hk, hi⟩
  refine ⟨_, (hv.keep hk).len, fun hlt => ?_, fun hge => ?_⟩
  · have hil : i < cs.length := by omega
    rw [List.drop_eq_getElem_cons hil] at hi
    refine ⟨fun m' k miss H2 => ∃ j : Nat, k = j ∧ j + m' = cs[i].length ∧ Keep H.length H H2 ∧ miss = ((((cs[i]).take j).filter fun x => !decide (x ∈ set)).length : Int), cs[i].length, ⟨0, rfl, by omega, hk, by simp⟩, ?_⟩
    rintro m' _ _ H2 ⟨j, rfl, hm', hk2, rfl⟩
    obtain ⟨u, hu1, hu2⟩ := (hv.keep hk2).arr hil
    refine ⟨u, hu1, _, hu2.len, fun hlt' => ⟨u, hu1, _, hu2.int (by omega), ?_⟩, fun hge' => ?_⟩
    · have hjl : j < cs[i].length := by omega
      have hfl := List.length_filter_le (fun x => !decide (x ∈ set)) (cs[i].take j)
      rw [List.length_take] at hfl
      have hs := hu2.small
      refine h1 (hw.keep hk2) ⟨_, rfl, fun hne => ⟨m' - 1, by omega, j + 1, wsucc hjl hs, by omega, hk2, ?_⟩, fun he => ⟨m' - 1, by omega, j + 1, wsucc hjl hs, by omega, hk2, ?_⟩⟩
      · rw [List.take_succ_eq_append_getElem hjl, List.filter_append]
        have hmem : ¬ cs[i][j] ∈ set := by simpa using hne
        have : [cs[i][j]].filter (fun x => !decide (x ∈ set)) = [cs[i][j]] := by simp [hmem]
        rw [this, List.length_append, wrap64 (by omega) (by omega)]; simp
      · rw [List.take_succ_eq_append_getElem hjl, List.filter_append]
        have hmem : cs[i][j] ∈ set := by simpa using he
        have : [cs[i][j]].filter (fun x => !decide (x ∈ set)) = [] := by simp [hmem]
        rw [this, List.append_nil]
    · rw [List.take_of_length_le (by omega)]
      refine ⟨fun h0 => ?_, fun h0 => ⟨m - 1, by omega, i + 1, wsucc hil hv.small, by omega, hk2, ?_⟩⟩
      · have := hq H2 hk2
        rw [hi, failing, List.any_cons, count_missing.1 h0, Bool.true_or] at this; exact this
      · rw [hi, failing, List.any_cons, Bool.eq_false_iff.2 fun h => h0 (count_missing.2 h), Bool.false_or]; rfl
  · rw [List.drop_eq_nil_of_le (by omega)] at hi
    have := hq H' hk; rw [hi] at this; exact this

abbrev LandedC (F : Nat → Option RFunc) (f : Nat) : Prop := ∀ {fl H Q v w cs set n}, Lists H v cs → Ints H w set → fl ≤ H.length → set.length < 2 ^ 30 → (∀ H', Keep H.length H H' → Q (.bool (!failing cs (set ++ [n]))) H') → Ret F fl f [v, w, i64 n] H Q
theorem fLanded_c {f n1 : Nat} (hF : F f = some (rf_FLanded n1)) (h1 : FailingC F n1) : LandedC F f := fun {fl H Q v w cs set n} hv hw hfl hl hq => by
  refine v_FLanded hF _ _ _ ?_
  obtain ⟨a, H1, a1, a2, a3, _⟩ := (Acc.nil (H0 := H) (T := tInt) (H := H)).appendP (fl := fl) (free := true) (bytes := 8) tInt.plain hw (Keep.refl H) hfl (by simp; omega) (by omega)
  refine ⟨a, H1, a1, fun b H2 hb => ?_⟩
  obtain ⟨c, H3, c1, c2, c3, _⟩ := a2.push (fl := fl) (free := true) (bytes := 8) (a := n) rfl hb a3 hfl (by simp; omega) (by omega)
  refine ⟨c, H3, c1, h1 (hv.keep c3) (c2.arr c3) fun H4 k4 => ⟨_, rfl, ?_⟩⟩
  simpa using hq H4 (c3.call k4)

end Go.RM
