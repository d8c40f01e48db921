/-
  Functions of package slices: what they return.
-/
import Derived.Test.YtmiinaimpdbenaaSlcW
import Derived.Test.YtmiinaimpdbenaaRefC
namespace Go.RM
set_option linter.unusedSimpArgs false
set_option linter.unusedVariables false

/-- The first place of an element, as Go tells it. -/
def fidx {α : Type} (p : α → Bool) (l : List α) : Int := match l.findIdx? p with | some i => (i : Int) | none => -1

theorem fidx_nonneg {α : Type} (p : α → Bool) (l : List α) : decide (fidx p l ≥ 0) = l.any p := by
  unfold fidx
  cases h : l.findIdx? p with
  | none =>
    rw [List.findIdx?_eq_none_iff] at h
    simp only [ge_iff_le]
    have : l.any p = false := by rw [List.any_eq_false]; intro x hx; simp [h x hx]
    rw [this]; rfl
  | some i =>
    obtain ⟨h1, h2, _⟩ := List.findIdx?_eq_some_iff_getElem.1 h
    have : l.any p = true := List.any_eq_true.2 ⟨_, List.getElem_mem h1, h2⟩
    rw [this]; simp

theorem fidx_hit {α : Type} {p : α → Bool} {l : List α} {i : Nat} (h : i < l.length) (hp : p l[i] = true) (hn : ∀ x ∈ l.take i, p x = false) : fidx p l = i := by
  unfold fidx
  rw [List.findIdx?_eq_some_iff_getElem.2 ⟨h, hp, fun j hj => by
    have := hn l[j] (by rw [List.mem_take_iff_getElem]; exact ⟨j, by omega, rfl⟩)
    simp [this]⟩]
theorem fidx_none {α : Type} {p : α → Bool} {l : List α} (hn : ∀ x ∈ l, p x = false) : fidx p l = -1 := by
  unfold fidx
  rw [List.findIdx?_eq_none_iff.2 hn]

theorem take_step {α : Type} {p : α → Bool} {l : List α} {i : Nat} (h : i < l.length) (hp : p l[i] = false) (hn : ∀ x ∈ l.take i, p x = false) : ∀ x ∈ l.take (i + 1), p x = false := by
  intro x hx
  rw [List.take_succ_eq_append_getElem h, List.mem_append, List.mem_singleton] at hx
  rcases hx with hx | rfl
  · exact hn x hx
  · exact hp

variable {F : Nat → Option RFunc}

abbrev IndexIC (F : Nat → Option RFunc) (f : Nat) : Prop := ∀ {fl H Q v l n}, Ints H v l → Q (i64 (fidx (fun x => x == n) l)) H → Ret F fl f [v, i64 n] H Q
theorem indexI_c {f : Nat} (hF : F f = some rf_slices_Index__int_int) : IndexIC F f := fun {fl H Q v l n} hv hq => by
  refine v_slices_Index__int_int hF _ _ ?_
  refine ⟨_, hv.len, fun m v => ∃ i : Nat, v = i ∧ i + m = l.length ∧ ∀ x ∈ l.take i, (x == n) = false, l.length, ⟨0, rfl, by omega, by simp⟩, ?_⟩
  rintro m _ ⟨i, rfl, hm, hi⟩
  refine ⟨fun hlt => ?_, fun hge => ?_⟩
  · have hil : i < l.length := by omega
    refine ⟨_, hv.int hil, fun he => ?_, fun hne => ⟨m - 1, by omega, i + 1, wsucc hil hv.small, by omega, take_step (p := fun x => x == n) hil (by simpa using fun h => hne h.symm) hi⟩⟩
    rw [fidx_hit hil (by simp [he]) hi] at hq; exact hq
  · rw [List.take_of_length_le (by omega)] at hi
    rw [fidx_none hi] at hq; exact hq

abbrev ContainsIC (F : Nat → Option RFunc) (f : Nat) : Prop := ∀ {fl H Q v l n}, Ints H v l → Q (.bool (decide (n ∈ l))) H → Ret F fl f [v, i64 n] H Q
theorem containsI_c {f n1 : Nat} (hF : F f = some (rf_slices_Contains__int_int n1)) (h1 : IndexIC F n1) : ContainsIC F f := fun {fl H Q v l n} hv hq => by
  refine v_slices_Contains__int_int hF _ _ ?_
  refine h1 hv ⟨_, rfl, ?_⟩
  rw [fidx_nonneg]
  have : l.any (fun x => x == n) = decide (n ∈ l) := by
    rw [Bool.eq_iff_iff, List.any_eq_true, decide_eq_true_eq]
    constructor
    · rintro ⟨x, hx, he⟩; simp at he; rw [← he]; exact hx
    · intro h; exact ⟨n, h, by simp⟩
  rw [this]; exact hq

/-- A function value that tests an element. -/
def Tests (F : Nat → Option RFunc) {α : Type} (T : Ty α) (fl : Nat) (H : Heap) (g : Nat) (caps : List AV) (l : List α) (p : α → Bool) : Prop :=
  ∀ (c : AV) (a : α) (H' : Heap), a ∈ l → Keep H.length H H' → T.rel H' [c] a → Ret F fl g ([c] ++ caps) H' fun v H'' => v = .bool (p a) ∧ Keep H'.length H' H''

abbrev IndexFuncIC (F : Nat → Option RFunc) (f : Nat) : Prop := ∀ {fl H Q v l g caps p}, Ints H v l → Tests F tInt fl H g caps l p → (∀ H', Keep H.length H H' → Q (i64 (fidx p l)) H') → Ret F fl f [v, .func g caps] H Q
theorem indexFuncI_c {f : Nat} (hF : F f = some rf_slices_IndexFunc__int_int) : IndexFuncIC F f := fun {fl H Q v l g caps p} hv ht hq => by
  refine v_slices_IndexFunc__int_int hF _ _ _ ?_
  refine ⟨_, hv.len, fun m v H' => ∃ i : Nat, v = i ∧ i + m = l.length ∧ Keep H.length H H' ∧ ∀ x ∈ l.take i, p x = false, l.length, ⟨0, rfl, by omega, Keep.refl H, by simp⟩, ?_⟩
  rintro m _ H' ⟨i, rfl, hm, hk, hi⟩
  refine ⟨fun hlt => ?_, fun hge => ?_⟩
  · have hil : i < l.length := by omega
    refine ⟨_, (hv.keep hk).int hil, (ht _ l[i] H' (List.getElem_mem hil) hk rfl).mono ?_⟩
    rintro _ H2 ⟨rfl, hk2⟩
    refine ⟨_, rfl, fun he => ?_, fun hne => ⟨m - 1, by omega, i + 1, wsucc hil hv.small, by omega, hk.call hk2, take_step hil (by simpa using hne) hi⟩⟩
    have := hq H2 (hk.call hk2)
    rw [fidx_hit hil he hi] at this; exact this
  · rw [List.take_of_length_le (by omega)] at hi
    have := hq H' hk
    rw [fidx_none hi] at this; exact this

abbrev ContainsFuncIC (F : Nat → Option RFunc) (f : Nat) : Prop := ∀ {fl H Q v l g caps p}, Ints H v l → Tests F tInt fl H g caps l p → (∀ H', Keep H.length H H' → Q (.bool (l.any p)) H') → Ret F fl f [v, .func g caps] H Q
theorem containsFuncI_c {f n1 : Nat} (hF : F f = some (rf_slices_ContainsFunc__int_int n1)) (h1 : IndexFuncIC F n1) : ContainsFuncIC F f := fun {fl H Q v l g caps p} hv ht hq => by
  refine v_slices_ContainsFunc__int_int hF _ _ _ ?_
  refine h1 hv ht fun H' hk => ⟨_, rfl, ?_⟩
  rw [fidx_nonneg]; exact hq H' hk

abbrev IndexFuncLC (F : Nat → Option RFunc) (f : Nat) : Prop := ∀ {fl H Q v} {l : List (List Int)} {g caps p}, Arr (tArr tInt) H v l → Tests F (tArr tInt) fl H g caps l p → (∀ H', Keep H.length H H' → Q (i64 (fidx p l)) H') → Ret F fl f [v, .func g caps] H Q
theorem indexFuncL_c {f : Nat} (hF : F f = some rf_slices_IndexFunc___int__int) : IndexFuncLC F f := fun {fl H Q v l g caps p} hv ht hq => by
  refine v_slices_IndexFunc___int__int hF _ _ _ ?_
  refine ⟨_, hv.len, fun m v H' => ∃ i : Nat, v = i ∧ i + m = l.length ∧ Keep H.length H H' ∧ ∀ x ∈ l.take i, p x = false, l.length, ⟨0, rfl, by omega, Keep.refl H, by simp⟩, ?_⟩
  rintro m _ H' ⟨i, rfl, hm, hk, hi⟩
  refine ⟨fun hlt => ?_, fun hge => ?_⟩
  · have hil : i < l.length := by omega
    obtain ⟨w, hw1, hw2⟩ := (hv.keep hk).arr hil
    refine ⟨_, hw1, (ht _ l[i] H' (List.getElem_mem hil) hk ⟨w, rfl, hw2⟩).mono ?_⟩
    rintro _ H2 ⟨rfl, hk2⟩
    refine ⟨_, rfl, fun he => ?_, fun hne => ⟨m - 1, by omega, i + 1, wsucc hil hv.small, by omega, hk.call hk2, take_step hil (by simpa using hne) hi⟩⟩
    have := hq H2 (hk.call hk2)
    rw [fidx_hit hil he hi] at this; exact this
  · rw [List.take_of_length_le (by omega)] at hi
    have := hq H' hk
    rw [fidx_none hi] at this; exact this

abbrev ContainsFuncLC (F : Nat → Option RFunc) (f : Nat) : Prop := ∀ {fl H Q v} {l : List (List Int)} {g caps p}, Arr (tArr tInt) H v l → Tests F (tArr tInt) fl H g caps l p → (∀ H', Keep H.length H H' → Q (.bool (l.any p)) H') → Ret F fl f [v, .func g caps] H Q
theorem containsFuncL_c {f n1 : Nat} (hF : F f = some (rf_slices_ContainsFunc___int__int n1)) (h1 : IndexFuncLC F n1) : ContainsFuncLC F f := fun {fl H Q v l g caps p} hv ht hq => by
  refine v_slices_ContainsFunc___int__int hF _ _ _ ?_
  refine h1 hv ht fun H' hk => ⟨_, rfl, ?_⟩
  rw [fidx_nonneg]; exact hq H' hk

end Go.RM
