import Derived.Test.YtpjbnjgckbhohaaSpW
import Derived.Test.YtpjbnjgckbhohaaSpR
import Derived.Test.YtpjbnjgckbhohaaSlcW
import Derived.Test.YtpjbnjgckbhohaaRmOwn2
/-
  speculate: runs, percentages, equal runs; as contracts, the program's and the document's.
-/
namespace Go.RM
set_option linter.unusedSimpArgs false
set_option linter.unusedVariables false
namespace Sp
variable {F : Nat → Option RFunc}

abbrev ints (l : List Int) : List AV := l.map fun x => i64 x

structure Run where
  last : Int
  w : List Int
  deriving DecidableEq, Inhabited
structure TR where
  r : Run
  ok : Bool
  deriving DecidableEq, Inhabited

abbrev runC (v : AV) (r : Run) : List AV := [i64 r.last, v]
abbrev trC (v : AV) (x : TR) : List AV := [i64 x.r.last, v, .bool x.ok]
def tRun : Ty Run where
  e := 2
  rel H c x := ∃ v, c = runC v x ∧ Ints H v x.w
  pos := by decide
  len h := by obtain ⟨v, rfl, _⟩ := h; rfl
  scal h := by
    obtain ⟨v, rfl, h⟩ := h
    show (true && (v.scalar && true)) = true
    rw [h.scal.2]; rfl
  keep k h := by obtain ⟨v, rfl, h⟩ := h; exact ⟨v, rfl, h.keep k⟩
def tTR : Ty TR where
  e := 3
  rel H c x := ∃ v, c = trC v x ∧ Ints H v x.r.w
  pos := by decide
  len h := by obtain ⟨v, rfl, _⟩ := h; rfl
  scal h := by
    obtain ⟨v, rfl, h⟩ := h
    show (true && (v.scalar && (true && true))) = true
    rw [h.scal.2]; rfl
  keep k h := by obtain ⟨v, rfl, h⟩ := h; exact ⟨v, rfl, h.keep k⟩

theorem tr_get {H : Heap} {v : AV} {l : List TR} (h : Arr tTR H v l) {i : Nat} (hi : i < l.length) : ∃ w, getA H 3 (some 3) v (i : Int) 0 = some (.agg (trC w l[i])) ∧ getA H 3 none v (i : Int) 2 = some (.bool l[i].ok) ∧ Ints H w l[i].r.w := by
  obtain ⟨c, ⟨w, rfl, h1⟩, h2, h3⟩ := h.get hi
  exact ⟨w, h2, h3 2 _ rfl, h1⟩
theorem run_get {H : Heap} {v : AV} {l : List Run} (h : Arr tRun H v l) {i : Nat} (hi : i < l.length) : ∃ w, getA H 2 (some 2) v (i : Int) 0 = some (.agg (runC w l[i])) ∧ Ints H w l[i].w := by
  obtain ⟨c, ⟨w, rfl, h1⟩, h2, h3⟩ := h.get hi
  exact ⟨w, h2, h1⟩

/-- A part of an element. -/
theorem Sl.part {H : Heap} {e n : Nat} {v : AV} {cs : List AV} (h : Sl H e v n cs) {i o k : Nat} (hi : i < n) (ho : o + k ≤ e) {c : List AV} (hc : (cs.drop (i * e + o)).take k = c) : getA H e (some k) v i o = some (.agg c) := by
  rcases h.out with ⟨rfl, rfl, _⟩ | ⟨b, off, lim, kb, rfl, h2, h3, h4, h6, h5⟩
  · omega
  · have hm : i * e + e ≤ n * e := by
      have : (i + 1) * e ≤ n * e := Nat.mul_le_mul_right e hi
      rw [Nat.succ_mul] at this; omega
    show (if (0 : Int) ≤ i ∧ (i : Int) < n then rload H (some k) b (off + (i : Int).toNat * e + o) else none) = _
    rw [if_pos (by omega), Int.toNat_natCast]
    unfold rload
    rw [h2]
    simp only
    rw [if_pos (by omega)]
    congr 2
    rw [← hc, h5, List.drop_take, List.take_take, List.drop_drop]
    congr 1
    · omega
    · congr 1; omega

/-- The error code of a run. -/
def codeL (last : Int) : Int → List Int → Int
  | _, [] => 0
  | p, c :: l => if c < 0 ∨ c ≥ last then 3 else if c ≤ p then 5 else codeL last c l
def runE (n : Int) (r : Run) : Int := if r.last < 0 ∨ r.last ≥ n then 3 else codeL r.last (-1) r.w
def prevAt (w : List Int) (j : Nat) : Int := if j = 0 then -1 else w.getD (j - 1) 0
theorem getD_get {α : Type} {l : List α} {i : Nat} {a : α} (h : i < l.length) : l.getD i a = l[i] := by rw [List.getD_eq_getElem?_getD, List.getElem?_eq_getElem h]; rfl
theorem prevAt_succ {w : List Int} {j : Nat} (h : j < w.length) : prevAt w (j + 1) = w[j] := by
  unfold prevAt
  rw [if_neg (by omega), Nat.add_sub_cancel, getD_get h]

abbrev RunCodeC (F : Nat → Option RFunc) (f : Nat) : Prop := ∀ {fl H Q v} {n : Int} {r : Run}, Ints H v r.w → (∀ H', Keep H.length H H' → Q (i64 (runE n r)) H') → Ret F fl f [i64 n, .agg (runC v r)] H Q
theorem runCode_c {f : Nat} (hF : F f = some rf_speculate_runCode) : RunCodeC F f := fun {fl H Q v n r} hv hq => by
  refine v_speculate_runCode hF _ _ _ ?_
  intro H3 d3
  have k3 := d3.keep
  have v3 := hv.keep k3
  have hsm := hv.small
  unfold runE at hq
  refine ⟨fun h => ?_, fun h => ⟨_, v3.len, ?_⟩⟩
  · have := hq H3 k3
    rw [if_pos h] at this; exact this
  · rw [if_neg h] at hq
    refine ⟨fun m i => ∃ j : Nat, i = j ∧ j + m = r.w.length ∧ codeL r.last (-1) r.w = codeL r.last (prevAt r.w j) (r.w.drop j), r.w.length, ⟨0, rfl, by omega, rfl⟩, ?_⟩
    rintro m _ ⟨j, rfl, hm, he⟩
    refine ⟨fun hlt => ?_, fun hge => ?_⟩
    · have hj : j < r.w.length := by omega
      rw [List.drop_eq_getElem_cons hj, codeL] at he
      refine ⟨_, v3.int hj, fun hb => ?_, fun hb => ?_⟩
      · rw [if_pos hb] at he
        have := hq H3 k3
        rw [he] at this; exact this
      · rw [if_neg hb] at he
        refine ⟨fun hpos => ?_, fun hz => ⟨m - 1, by omega, j + 1, wsucc hj hsm, by omega, ?_⟩⟩
        · have hj1 : j - 1 < r.w.length := by omega
          rw [wrap64 (by omega) (by omega), show (j : Int) - 1 = ((j - 1 : Nat) : Int) by omega]
          have hp : prevAt r.w j = r.w[j - 1] := by
            unfold prevAt
            rw [if_neg (by omega), getD_get hj1]
          rw [hp] at he
          refine ⟨_, v3.int hj1, fun hc => ?_, fun hc => ⟨m - 1, by omega, j + 1, wsucc hj hsm, by omega, ?_⟩⟩
          · rw [if_pos hc] at he
            have := hq H3 k3
            rw [he] at this; exact this
          · rw [if_neg hc] at he
            rw [prevAt_succ hj]; exact he
        · have : j = 0 := by omega
          subst this
          rw [if_neg (by show ¬ r.w[0] ≤ -1; omega)] at he
          rw [prevAt_succ hj]; exact he
    · rw [List.drop_eq_nil_of_le (by omega), codeL] at he
      have := hq H3 k3
      rw [he] at this; exact this

theorem fRunCode_c {f : Nat} (hF : F f = some rf_FRunCode) : RunCodeC F f := fun {fl H Q v n r} hv hq => by
  refine v_FRunCode hF _ _ _ ?_
  intro H3 d3
  have k3 := d3.keep
  have v3 := hv.keep k3
  have hsm := hv.small
  unfold runE at hq
  refine ⟨fun h => ?_, fun h => ?_⟩
  · have := hq H3 k3
    rw [if_pos h] at this; exact this
  · rw [if_neg h] at hq
    refine ⟨fun m i p => ∃ j : Nat, i = j ∧ j + m = r.w.length ∧ codeL r.last (-1) r.w = codeL r.last p (r.w.drop j), r.w.length, ⟨0, rfl, by omega, rfl⟩, ?_⟩
    rintro m _ p ⟨j, rfl, hm, he⟩
    refine ⟨_, v3.len, fun hlt => ?_, fun hge => ?_⟩
    · have hj : j < r.w.length := by omega
      rw [List.drop_eq_getElem_cons hj, codeL] at he
      refine ⟨_, v3.int hj, fun hb => ?_, fun hb => ⟨_, v3.int hj, fun hc => ?_, fun hc => ⟨_, v3.int hj, fun hd => ?_, fun hd => ⟨_, v3.int hj, m - 1, by omega, j + 1, wsucc hj hsm, by omega, ?_⟩⟩⟩⟩
      · rw [if_pos (.inl hb)] at he
        have := hq H3 k3
        rw [he] at this; exact this
      · rw [if_pos (.inr hc)] at he
        have := hq H3 k3
        rw [he] at this; exact this
      · rw [if_neg (by omega), if_pos hd] at he
        have := hq H3 k3
        rw [he] at this; exact this
      · rw [if_neg (by omega), if_neg hd] at he
        exact he
    · rw [List.drop_eq_nil_of_le (by omega), codeL] at he
      have := hq H3 k3
      rw [he] at this; exact this

abbrev flt (a b : Int) : AV := .agg [i64 a, i64 b]
abbrev fp (x : Int × Int) : AV := flt x.1 x.2

def percL : Int → List Int → Int × Int
  | _, [] => (0, 0)
  | i, p :: l => if p < 0 ∨ p > 100 then (3, i) else percL (i + 1) l
def percE (l : List Int) : Int × Int := if l.length > 8 then (2, -1) else percL 0 l

abbrev PercC (F : Nat → Option RFunc) (f : Nat) : Prop := ∀ {fl H Q v} {l : List Int}, Ints H v l → (∀ H', Keep H.length H H' → Q (fp (percE l)) H') → Ret F fl f [v] H Q
theorem percents_c {f : Nat} (hF : F f = some rf_speculate_percents) : PercC F f := fun {fl H Q v l} hv hq => by
  refine v_speculate_percents hF _ ?_
  intro H1 d1
  have k1 := d1.keep
  have v1 := hv.keep k1
  unfold percE at hq
  refine ⟨_, v1.len, fun h => ?_, fun h => ⟨_, v1.len, ?_⟩⟩
  · have := hq H1 k1
    rw [if_pos (by omega)] at this; exact this
  · rw [if_neg (by omega)] at hq
    refine ⟨fun m _ _ i => ∃ j : Nat, i = j ∧ j + m = l.length ∧ percL 0 l = percL j (l.drop j), l.length, ⟨0, rfl, by omega, rfl⟩, ?_⟩
    rintro m _ _ _ ⟨j, rfl, hm, he⟩
    refine ⟨fun hlt => ?_, fun hge => ?_⟩
    · have hj : j < l.length := by omega
      rw [List.drop_eq_getElem_cons hj, percL] at he
      refine ⟨_, v1.int hj, fun hb => ?_, fun hb => ⟨m - 1, by omega, j + 1, wsucc hj hv.small, by omega, ?_⟩⟩
      · rw [if_pos hb] at he
        have := hq H1 k1
        rw [he] at this; exact this
      · rw [if_neg hb] at he; exact he
    · rw [List.drop_eq_nil_of_le (by omega), percL] at he
      have := hq H1 k1
      rw [he] at this; exact this
theorem fPercents_c {f n1 : Nat} (hF : F f = some (rf_FPercentsFault n1)) (h1 : FFaultC F n1) : PercC F f := fun {fl H Q v l} hv hq => by
  refine v_FPercentsFault hF _ ?_
  intro H1 d1
  have k1 := d1.keep
  have v1 := hv.keep k1
  unfold percE at hq
  refine ⟨_, v1.len, fun h => ?_, fun h => ?_⟩
  · refine h1 fun H5 k5 => ⟨_, _, rfl, ?_⟩
    have := hq H5 (k1.call k5)
    rw [if_pos (by omega)] at this; exact this
  · rw [if_neg (by omega)] at hq
    refine ⟨fun m _ _ i H' => ∃ j : Nat, i = j ∧ j + m = l.length ∧ Keep H.length H H' ∧ percL 0 l = percL j (l.drop j), l.length, ⟨0, rfl, by omega, k1, rfl⟩, ?_⟩
    rintro m _ _ _ H15 ⟨j, rfl, hm, k15, he⟩
    have v15 := hv.keep k15
    refine ⟨_, v15.len, fun hlt => ?_, fun hge => ?_⟩
    · have hj : j < l.length := by omega
      rw [List.drop_eq_getElem_cons hj, percL] at he
      refine ⟨_, v15.int hj, fun hb => ?_, fun hb => ⟨_, v15.int hj, fun hc => ?_, fun hc => ⟨m - 1, by omega, j + 1, wsucc hj hv.small, by omega, k15, ?_⟩⟩⟩
      · rw [if_pos (.inl hb)] at he
        refine h1 fun H5 k5 => ⟨_, _, rfl, ?_⟩
        have := hq H5 (k15.call k5)
        rw [he] at this; exact this
      · rw [if_pos (.inr hc)] at he
        refine h1 fun H5 k5 => ⟨_, _, rfl, ?_⟩
        have := hq H5 (k15.call k5)
        rw [he] at this; exact this
      · rw [if_neg (by omega)] at he; exact he
    · rw [List.drop_eq_nil_of_le (by omega), percL] at he
      refine h1 fun H5 k5 => ⟨_, _, rfl, ?_⟩
      have := hq H5 (k15.call k5)
      rw [he] at this; exact this

theorem equalI_c {f : Nat} (hF : F f = some rf_slices_Equal__int_int) : FEqualIntsC F f := fun {fl H Q a b l m} ha hb hq => by
  refine v_slices_Equal__int_int hF _ _ ?_
  have hs := ha.small
  refine ⟨_, ha.len, _, hb.len, fun hne => ?_, fun he => ⟨_, ha.len, ?_⟩⟩
  · rw [decide_eq_false (fun h => hne (by rw [h]))] at hq; exact hq
  · have he : l.length = m.length := by omega
    refine ⟨fun k v => ∃ i : Nat, v = i ∧ i + k = l.length ∧ (l.take i = m.take i), l.length, ⟨0, rfl, by omega, by simp⟩, ?_⟩
    rintro k _ ⟨i, rfl, hk, hi⟩
    refine ⟨fun hlt => ?_, fun hge => ?_⟩
    · have hil : i < l.length := by omega
      refine ⟨_, ha.int hil, _, hb.int (show i < m.length by omega), fun hne => ?_, fun heq => ?_⟩
      · rw [decide_eq_false (fun h => hne (by subst h; rfl))] at hq; exact hq
      · refine ⟨k - 1, by omega, i + 1, wsucc hil hs, by omega, ?_⟩
        have heq : l[i] = m[i] := Classical.not_not.1 heq
        rw [List.take_succ_eq_append_getElem hil, List.take_succ_eq_append_getElem (by omega), hi, heq]
    · rw [List.take_of_length_le (by omega), List.take_of_length_le (by omega)] at hi
      rw [decide_eq_true hi] at hq; exact hq

abbrev SameC (F : Nat → Option RFunc) (f : Nat) : Prop := ∀ {fl H Q v w} {a b : Run}, Ints H v a.w → Ints H w b.w → (∀ H', Keep H.length H H' → Q (.bool (decide (a = b))) H') → Ret F fl f [.agg (runC v a), .agg (runC w b)] H Q
theorem run_ext {a b : Run} : a = b ↔ a.last = b.last ∧ a.w = b.w := by
  cases a; cases b; simp
theorem same_c {f n1 : Nat} (hF : F f = some (rf_speculate_same n1)) (h1 : FEqualIntsC F n1) : SameC F f := fun {fl H Q v w a b} hv hw hq => by
  refine v_speculate_same hF _ _ _ _ ?_
  intro H4 d4 H5 d5
  have k5 := d4.keep.call d5.keep
  refine ⟨fun he => ?_, fun hne => ?_⟩
  · refine h1 (hv.keep k5) (hw.keep k5) ⟨_, rfl, ?_⟩
    have := hq H5 k5
    have e : decide (a = b) = decide (a.w = b.w) := by rw [Bool.eq_iff_iff, decide_eq_true_eq, decide_eq_true_eq, run_ext]; exact ⟨fun h => h.2, fun h => ⟨he, h⟩⟩
    rw [e] at this; exact this
  · have := hq H5 k5
    rw [decide_eq_false fun h => hne (by rw [h])] at this; exact this
theorem fEqualRuns_c {f n1 : Nat} (hF : F f = some (rf_FEqualRuns n1)) (h1 : FEqualIntsC F n1) : SameC F f := fun {fl H Q v w a b} hv hw hq => by
  refine v_FEqualRuns hF _ _ _ _ ?_
  intro H4 d4 H5 d5
  have k5 := d4.keep.call d5.keep
  refine ⟨fun he => ?_, fun hne => ?_⟩
  · refine h1 (hv.keep k5) (hw.keep k5) ⟨_, rfl, ?_⟩
    have := hq H5 k5
    have e : decide (a = b) = decide (a.w = b.w) := by rw [Bool.eq_iff_iff, decide_eq_true_eq, decide_eq_true_eq, run_ext]; exact ⟨fun h => h.2, fun h => ⟨he, h⟩⟩
    rw [e] at this; exact this
  · have := hq H5 k5
    rw [decide_eq_false fun h => hne (by rw [h])] at this; exact this

/-- A function value that tests an element that is a result. -/
def TestsR (F : Nat → Option RFunc) (fl : Nat) (H : Heap) (g : Nat) (caps : List AV) (l : List TR) (p : TR → Bool) : Prop :=
  ∀ (w : AV) (a : TR) (H' : Heap), a ∈ l → Keep H.length H H' → Ints H' w a.r.w → Ret F fl g ([.agg (trC w a)] ++ caps) H' fun v H'' => v = .bool (p a) ∧ Keep H'.length H' H''

abbrev IndexRC (F : Nat → Option RFunc) (f : Nat) : Prop := ∀ {fl H Q v} {l : List TR} {g caps p}, Arr tTR H v l → TestsR F fl H g caps l p → (∀ H', Keep H.length H H' → Q (i64 (fidx p l)) H') → Ret F fl f [v, .func g caps] H Q
theorem indexR_c {f : Nat} (hF : F f = some rf_slices_IndexFunc__api_TestResult_api_TestResult) : IndexRC F f := fun {fl H Q v l g caps p} hv ht hq => by
  refine v_slices_IndexFunc__api_TestResult_api_TestResult hF _ _ _ ?_
  refine ⟨_, hv.len, fun m v H' => ∃ i : Nat, v = i ∧ i + m = l.length ∧ Keep H.length H H' ∧ ∀ x ∈ l.take i, p x = false, l.length, ⟨0, rfl, by omega, Keep.refl H, by simp⟩, ?_⟩
  rintro m _ H' ⟨i, rfl, hm, hk, hi⟩
  refine ⟨fun hlt => ?_, fun hge => ?_⟩
  · have hil : i < l.length := by omega
    obtain ⟨w, g1, _, g2⟩ := tr_get (hv.keep hk) hil
    refine ⟨_, _, _, g1, (ht w l[i] H' (List.getElem_mem hil) hk g2).mono ?_⟩
    rintro _ H2 ⟨rfl, hk2⟩
    refine ⟨_, rfl, fun he => ?_, fun hne => ⟨m - 1, by omega, i + 1, wsucc hil hv.small, by omega, hk.call hk2, take_step hil (by simpa using hne) hi⟩⟩
    have := hq H2 (hk.call hk2)
    rw [fidx_hit hil he hi] at this; exact this
  · rw [List.take_of_length_le (by omega)] at hi
    have := hq H' hk
    rw [fidx_none hi] at this; exact this
abbrev ContainsRC (F : Nat → Option RFunc) (f : Nat) : Prop := ∀ {fl H Q v} {l : List TR} {g caps p}, Arr tTR H v l → TestsR F fl H g caps l p → (∀ H', Keep H.length H H' → Q (.bool (l.any p)) H') → Ret F fl f [v, .func g caps] H Q
theorem containsR_c {f n1 : Nat} (hF : F f = some (rf_slices_ContainsFunc__api_TestResult_api_TestResult n1)) (h1 : IndexRC F n1) : ContainsRC F f := fun {fl H Q v l g caps p} hv ht hq => by
  refine v_slices_ContainsFunc__api_TestResult_api_TestResult hF _ _ _ ?_
  refine h1 hv ht fun H' hk => ⟨_, rfl, ?_⟩
  rw [fidx_nonneg]; exact hq H' hk

end Sp
end Go.RM

