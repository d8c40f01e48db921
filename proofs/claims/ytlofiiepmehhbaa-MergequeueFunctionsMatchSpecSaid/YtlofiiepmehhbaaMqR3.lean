import Derived.Test.YtlofiiepmehhbaaMqC4
/-
  The reference's merge queue: settled, Step, RunQueue.
-/
namespace Go.RM
set_option linter.unusedSimpArgs false
set_option linter.unusedVariables false
set_option maxRecDepth 4000
open Mq

variable {F : Nat → Option RFunc}

theorem own_copy {H : Heap} {v : AV} {l : List Int} {fl : Nat} {free : Bool} (h : Ints H v l) (hl : l.length ≤ 2 ^ 20) :
    ∃ a H', appA fl free 1 8 H .empty v = some (a, H') ∧ OI H.length H' a l ∧ Keep H.length H H' ∧ (∀ b, At a b → H.length ≤ b) := by
  obtain ⟨css, h1, h2⟩ := h
  have hcss : css = l.map fun x => [AV.int .i64 x] := by
    clear h2 hl
    induction l generalizing css with
    | nil => cases css with
      | nil => rfl
      | cons _ _ => exact h1.elim
    | cons x l ih => cases css with
      | nil => exact h1.elim
      | cons c css => rw [List.map_cons, ← ih css h1.2, show c = [AV.int .i64 x] from h1.1]
  subst hcss
  rw [← Row.flat] at h2
  obtain ⟨c1, c2⟩ := sl_cells h2
  have c2' : sliceCells H 1 l.length v = some (ints l) := c2
  have hstart : appA fl free 1 8 H .empty v = rappend fl free 1 8 H .empty l.length (ints l) := by
    show (match sliceLen v with | some k => (sliceCells H 1 k v).bind fun xs => rappend fl free 1 8 H .empty k xs | none => none) = _
    rw [c1]; simp only [c2', Option.bind_some]
  rw [hstart]
  unfold rappend
  by_cases h0 : l.length = 0
  · obtain rfl := List.eq_nil_of_length_eq_zero h0
    exact ⟨.empty, H, rfl, Own.nil, Keep.refl H, fun b hb => absurd hb at_empty⟩
  · rw [if_neg h0]
    simp only
    rw [if_pos ⟨by omega, by omega⟩]
    refine ⟨.slice H.length 0 l.length none, H ++ [{ cells := ints l, e := 1 }], rfl, ⟨by omega, .inr ⟨H.length, 0, none, { cells := ints l, e := 1 }, rfl, Nat.le_refl _, snoc_end _ _, rfl, rfl, by simp, by
      show ints l = ((ints l).drop 0).take (l.length * 1)
      rw [List.drop_zero, Nat.mul_one, List.take_of_length_le (by simp)], ⟨l.length, by simp⟩, fun c hc => by cases hc⟩⟩, Keep.app H _, fun b hb => Nat.le_of_eq (at_slice.same hb)⟩

structure SSt (n : Nat) (H : Heap) (v0 v1 v2 v3 v4 : AV) (q : RQ) : Prop extends RSt H v0 v1 v2 v3 v4 q where
  own : OI n H v2 (q.t.map (·.s))
  d0 : ∀ b, At v2 b → ¬ At v0 b
  d1 : ∀ b, At v2 b → ¬ At v1 b
  d3 : ∀ b, At v2 b → ¬ At v3 b
  d4 : ∀ b, At v2 b → ¬ At v4 b

section
variable {n : Nat} {H H' : Heap} {v0 v1 v2 v3 v4 : AV} {q : RQ}
theorem SSt.keep (h : SSt n H v0 v1 v2 v3 v4 q) (k : Keep H.length H H') : SSt n H' v0 v1 v2 v3 v4 q := { h with toRSt := h.toRSt.keep k, own := h.own.keep k }
theorem set_map {q : List Tri} {i : Nat} {x : Int} (hi : i < q.length) : (q.map (·.c)) = ((q.set i { q[i] with s := x }).map (·.c)) ∧ (q.map (·.p)) = ((q.set i { q[i] with s := x }).map (·.p)) ∧ (q.map (·.s)).set i x = ((q.set i { q[i] with s := x }).map (·.s)) := by
  refine ⟨?_, ?_, ?_⟩
  · refine List.ext_getElem (by simp) fun k h1 h2 => ?_
    simp only [List.getElem_map, List.getElem_set]
    split
    · rename_i e; subst e; rfl
    · rfl
  · refine List.ext_getElem (by simp) fun k h1 h2 => ?_
    simp only [List.getElem_map, List.getElem_set]
    split
    · rename_i e; subst e; rfl
    · rfl
  · rw [List.map_set]
theorem SSt.put (h : SSt n H v0 v1 v2 v3 v4 q) {i : Nat} (hi : i < q.t.length) (x : Int) {fl : Nat} (hfl : fl ≤ n) (hn : n ≤ H.length) :
    ∃ b o, ptrA 1 v2 (i : Int) = some (b, o) ∧ ∃ H', putA fl H b o 1 (i64 x) = some H' ∧ SSt n H' v0 v1 v2 v3 v4 { q with t := q.t.set i { q.t[i] with s := x } } ∧ Keep n H H' ∧ H'.length = H.length := by
  obtain ⟨b, o, h1, h2, H', a1, a2, a3⟩ := own_putInt h.own (i := i) (by simpa using hi) (x := x) hfl
  obtain ⟨e1, e2, e3⟩ := set_map (x := x) hi
  rw [e3] at a2
  refine ⟨b, o, h1, H', a1, { c := ?_, p := ?_, s := a2.less (Nat.zero_le _), la := h.la.frame fun c hc => a3.get c fun e => h.d3 b h2 (e ▸ hc), re := h.re.frame fun c hc => a3.get c fun e => h.d4 b h2 (e ▸ hc), own := a2, d0 := h.d0, d1 := h.d1, d3 := h.d3, d4 := h.d4 }, a3.keep (h.own.at_lt h2).1 hn, a3.len⟩
  · rw [← e1]; exact h.c.frame fun c hc => a3.get c fun e => h.d0 b h2 (e ▸ hc)
  · rw [← e2]; exact h.p.frame fun c hc => a3.get c fun e => h.d1 b h2 (e ▸ hc)

theorem O3.sst {H1 : Heap} {r0 r1 r2 : AV} {t : List Tri} (h : O3 H.length H1 r0 r1 r2 t) (hs : RSt H v0 v1 v2 v3 v4 q) (k : Keep H.length H H1) : SSt H.length H1 r0 r1 r2 v3 v4 { q with t := t } where
  c := h.h0.less (Nat.zero_le _)
  p := h.h1.less (Nat.zero_le _)
  s := h.h2.less (Nat.zero_le _)
  la := hs.la.keep k
  re := hs.re.keep k
  own := h.h2
  d0 := fun b hb ha => h.d02 b ha hb
  d1 := fun b hb ha => h.d12 b ha hb
  d3 := fun b hb ha => by have := (h.h2.at_lt hb).1; have := (hs.la.at_lt ha).2; omega
  d4 := fun b hb ha => by have := (h.h2.at_lt hb).1; have := (hs.re.at_lt ha).2; omega
theorem SSt.less {m : Nat} (h : SSt n H v0 v1 v2 v3 v4 q) (hm : m ≤ n) : SSt m H v0 v1 v2 v3 v4 q := { h with own := h.own.less hm }
end

theorem cutT_after (i : Int) (d : Bool) : ∀ (k : Nat) (l : List Tri), i < (k : Int) → cutT i d k l = l.map (mk0 d)
  | _, [], _ => rfl
  | k, t :: r, h => by
    rw [cutT, if_neg (by omega), cutT_after i d (k + 1) r (by omega), List.map_cons, decide_eq_true h, Bool.true_and]
theorem cutT_zero (d : Bool) (t : Tri) (r : List Tri) : cutT 0 d 0 (t :: r) = r.map (mk0 d) := by
  rw [cutT, if_pos (show ((0 : Nat) : Int) = 0 from rfl), cutT_after 0 d (0 + 1) r (by omega)]
theorem setF_len : ∀ (n : Nat) (q : RQ), (setF n q).t.length ≤ q.t.length ∧ (setF n q).la.length + (setF n q).re.length + (setF n q).t.length ≤ q.la.length + q.re.length + q.t.length
  | 0, q => ⟨Nat.le_refl _, Nat.le_refl _⟩
  | n + 1, ⟨[], la, re⟩ => ⟨Nat.le_refl _, Nat.le_refl _⟩
  | n + 1, ⟨t :: r, la, re⟩ => by
    simp only [setF]
    split
    · split
      · have := setF_len n { t := cutT 0 false 0 (t :: r), la := la ++ [t.c], re := re }
        rw [cutT_zero] at this ⊢
        simp at this ⊢; omega
      · have := setF_len n { t := cutT 0 true 0 (t :: r), la := la, re := re ++ [t.c] }
        rw [cutT_zero] at this ⊢
        simp at this ⊢; omega
    · exact ⟨Nat.le_refl _, Nat.le_refl _⟩
theorem startT_len (j : Nat) (l : List Tri) : (startT j l).length = l.length := by simp [startT]
theorem startT_get {j : Nat} {l : List Tri} {k : Nat} (h : k < l.length) : (startT j l)[k]'(by rw [startT_len]; exact h) = if k < j ∧ l[k].s = 0 then { l[k] with s := 1 } else l[k] := by simp [startT]
theorem startT_zero (l : List Tri) : startT 0 l = l := by
  refine List.ext_getElem (startT_len _ _) fun k h1 h2 => ?_
  rw [startT_get h2, if_neg (by omega)]
theorem startT_set {j : Nat} {l : List Tri} (hj : j < l.length) {e : Tri} (he : e = if l[j].s = 0 then { l[j] with s := 1 } else l[j]) : (startT j l).set j e = startT (j + 1) l := by
  refine List.ext_getElem (by simp [startT_len]) fun k h1 h2 => ?_
  rw [startT_len] at h2
  rw [List.getElem_set, startT_get h2, startT_get h2]
  by_cases ek : j = k
  · subst ek
    rw [if_pos rfl, he]
    by_cases hi : l[j].s = 0
    · rw [if_pos hi, if_pos ⟨by omega, hi⟩]
    · rw [if_neg hi, if_neg fun h => hi h.2]
  · rw [if_neg ek]
    by_cases h : k < j ∧ l[k].s = 0
    · rw [if_pos h, if_pos ⟨by omega, h.2⟩]
    · rw [if_neg h, if_neg fun hh => h ⟨by omega, hh.2⟩]
theorem startT_same {j : Nat} {l : List Tri} (hj : j < l.length) (hi : ¬ l[j].s = 0) : startT (j + 1) l = startT j l := by
  rw [← startT_set hj (e := l[j]) (by rw [if_neg hi])]
  have : (startT j l)[j]'(by rw [startT_len]; exact hj) = l[j] := by rw [startT_get hj, if_neg (by omega)]
  rw [← this, List.set_getElem_self]

theorem rstart_ok {fl n : Nat} {H : Heap} {v0 v1 v2 v3 v4 : AV} {q : RQ} {w : Int} {Q : AV → Heap → Prop} (hst : SSt n H v0 v1 v2 v3 v4 q) (hfl : fl ≤ n) (hn : n ≤ H.length) (hw : 1 ≤ w) (hl : q.t.length ≤ 2 ^ 18)
    (hq : ∀ H', Keep n H H' → RSt H' v0 v1 v2 v3 v4 { q with t := startT (min w.toNat q.t.length) q.t } → Q (.agg [v0, v1, v2, v3, v4]) H') :
    ∃ (J67 : Nat → Int → Heap → Prop) (k68 : Nat), J67 k68 0 H ∧ (∀ (m69 : Nat) (i70 : Int) (H73 : Heap), J67 m69 i70 H73 → ∃ len74 : Nat, lenA v0 = some len74 ∧ ((((i70 < (len74 : Int)) ∧ (i70 < w))) → ∃ (e75 : Int), getA H73 1 none v2 i70 0 = some (.int .i64 e75) ∧ ((e75 = 0) → ∃ b77 o78 : Nat, ptrA 1 v2 i70 = some (b77, o78) ∧ ∃ H79 : Heap, putA fl H73 b77 o78 1 (.int .i64 1) = some H79 ∧ ∃ m80 : Nat, m80 < m69 ∧ J67 m80 (IntKind.wrap .i64 (i70 + 1)) H79) ∧
      (¬(e75 = 0) → ∃ m81 : Nat, m81 < m69 ∧ J67 m81 (IntKind.wrap .i64 (i70 + 1)) H73)) ∧ (¬(((i70 < (len74 : Int)) ∧ (i70 < w))) → Scal v0 ∧ Scal v1 ∧ Scal v2 ∧ Scal v3 ∧ Scal v4 ∧ Q (.agg [v0, v1, v2, v3, v4]) H73)) := by
  refine ⟨fun m i H' => ∃ j : Nat, i = j ∧ j + m = min w.toNat q.t.length ∧ Keep n H H' ∧ SSt n H' v0 v1 v2 v3 v4 { q with t := startT j q.t }, min w.toNat q.t.length, ⟨0, rfl, by omega, Keep.rfl' hn, by rw [startT_zero]; exact hst⟩, ?_⟩
  rintro m _ H73 ⟨j, rfl, hm, hk, hs⟩
  refine ⟨_, hs.len, ?_⟩
  simp only [startT_len]
  refine ⟨fun hc => ?_, fun hc => ?_⟩
  · have hj : j < q.t.length := by omega
    have hj' : j < (startT j q.t).length := by rw [startT_len]; exact hj
    have e0 : (startT j q.t)[j] = q.t[j] := by rw [startT_get hj, if_neg (by omega)]
    refine ⟨_, hs.gs hj', ?_⟩
    simp only [e0]
    refine ⟨fun h0 => ?_, fun h0 => ⟨m - 1, by omega, j + 1, wsucc hj (by omega), by omega, hk, by rw [startT_same hj h0]; exact hs⟩⟩
    obtain ⟨b, o, p1, H79, a1, a2, a3, a4⟩ := hs.put hj' 1 hfl (Nat.le_trans hn hk.len)
    refine ⟨b, o, p1, H79, a1, m - 1, by omega, j + 1, wsucc hj (by omega), by omega, hk.tr a3, ?_⟩
    have e1 : (startT j q.t).set j { (startT j q.t)[j] with s := 1 } = startT (j + 1) q.t := startT_set hj (by rw [e0, if_pos h0])
    simp only [e1] at a2
    exact a2
  · have hj : j = min w.toNat q.t.length := by omega
    rw [← hj] at hq
    exact ⟨hs.c.scal, hs.p.scal, hs.s.scal, hs.la.scal, hs.re.scal, hq H73 hk hs.toRSt⟩

abbrev RSettledC (F : Nat → Option RFunc) (f : Nat) : Prop := ∀ {fl H Q n v0 v1 v2 v3 v4 q w}, SSt n H v0 v1 v2 v3 v4 q → fl ≤ n → n ≤ H.length → 1 ≤ w → q.t.length ≤ 2 ^ 17 → q.la.length + q.re.length + q.t.length ≤ 2 ^ 18 →
  (∀ r0 r1 r2 r3 r4 H', Keep n H H' → RSt H' r0 r1 r2 r3 r4 (settledR w q) → Q (.agg [r0, r1, r2, r3, r4]) H') → Ret F fl f [.agg [v0, v1, v2, v3, v4], i64 w] H Q
theorem rSettled_c {f n1 : Nat} (hF : F f = some (rf_FQueue_settled n1)) (h1 : RCutC F n1) : RSettledC F f := fun {fl H Q n v0 v1 v2 v3 v4 q w} hst hfl hn hw hl hl2 hq => by
  refine v_FQueue_settled hF _ _ _ _ _ _ ?_
  intro H6 d6 H7 d7
  have k7 := d6.keep.call d7.keep
  refine ⟨fun m q11 q12 q13 q14 q15 H' => ∃ q' : RQ, m = q'.t.length ∧ SSt n H' q11 q12 q13 q14 q15 q' ∧ Keep n H H' ∧ setF q'.t.length q' = setF q.t.length q ∧ q'.t.length ≤ 2 ^ 17 ∧ q'.la.length + q'.re.length + q'.t.length ≤ 2 ^ 18,
    q.t.length, ⟨q, rfl, hst.keep k7, k7.less hn, rfl, hl, hl2⟩, ?_⟩
  rintro m q11 q12 q13 q14 q15 H19 ⟨q', rfl, hs, hk, hF', hsz, hsz2⟩
  have fin : setF q'.t.length q' = q' → _ := fun hstop => rstart_ok (Q := Q) hs hfl (Nat.le_trans hn hk.len) hw (by omega) fun H' k' s' => hq _ _ _ _ _ H' (hk.tr k') (by
    unfold settledR
    simp only
    rw [← hF', hstop]; exact s')
  refine ⟨_, hs.len, fun hpos => ?_, fun hneg => ?_⟩
  · match q', hs, hF', hsz, hsz2, fin, hpos with
    | ⟨[], la, re⟩, _, _, _, _, _, hpos => exact absurd hpos (by simp)
    | ⟨t :: r, la, re⟩, hs, hF', hsz, hsz2, fin, hpos =>
      have g0 := hs.gs (i := 0) (by simp)
      have gc := hs.gc (i := 0) (by simp)
      refine ⟨t.s, g0, fun hgt => ⟨t.c, gc, t.s, g0, fun h2 => ?_, fun h2 => ?_⟩, fun hle => fin ?_⟩
      · refine h1 (i := 0) (d := false) hs.toRSt (by have := hk.len; omega) (by simp at hsz ⊢; omega) fun r0 r1 r2 H32 k32 o3 => ?_
        have s32 := o3.sst hs.toRSt k32
        refine ⟨r0, r1, r2, q14, q15, rfl, o3.h0.scal, o3.h1.scal, o3.h2.scal, hs.la.scal, hs.re.scal, ?_⟩
        obtain ⟨a39, H40, a1, a2, a3, a4⟩ := own_copy (fl := fl) (free := true) s32.la.ints (by simp at hsz2 ⊢; omega)
        refine ⟨a39, H40, a1, fun b41 H42 h42 => ?_⟩
        obtain ⟨a43, H44, b1, b2, b3, b4, b5⟩ := own_push (fl := fl) a2 a3.len h42 (by have := hk.len; have := k32.len; omega) (by simp at hsz2 ⊢; omega)
        have kk : Keep H32.length H32 H44 := a3.tr (keep_push a2 a3.len b3 b4)
        have hge : ∀ b, At a43 b → H32.length ≤ b := fun b hb => by
          rcases b5 b hb with h | h
          · exact a4 b h
          · exact Nat.le_trans a3.len h
        refine ⟨a43, H44, b1, b2.scal, r.length, by simp, ⟨cutT 0 false 0 (t :: r), la ++ [t.c], re⟩, by rw [cutT_zero]; simp, ?_, (hk.call k32).tr (kk.less (Nat.le_trans hn (Nat.le_trans hk.len k32.len))), ?_, ?_, ?_⟩
        · have s44 := s32.keep kk
          exact { c := s44.c, p := s44.p, s := s44.s, la := b2.less (Nat.zero_le _), re := s44.re, own := s44.own.less (Nat.le_trans hn hk.len), d0 := s44.d0, d1 := s44.d1, d3 := fun b hb ha => by have := (s32.own.at_lt hb).2; have := hge b ha; omega, d4 := s44.d4 }
        · rw [← hF']
          simp only [List.length_cons, setF]
          rw [if_pos hgt, if_pos h2, cutT_zero]; simp
        · rw [cutT_zero]; simp at hsz ⊢; omega
        · rw [cutT_zero]; simp at hsz2 ⊢; omega
      · refine h1 (i := 0) (d := true) hs.toRSt (by have := hk.len; omega) (by simp at hsz ⊢; omega) fun r0 r1 r2 H32 k32 o3 => ?_
        have s32 := o3.sst hs.toRSt k32
        refine ⟨r0, r1, r2, q14, q15, rfl, o3.h0.scal, o3.h1.scal, o3.h2.scal, hs.la.scal, hs.re.scal, ?_⟩
        obtain ⟨a39, H40, a1, a2, a3, a4⟩ := own_copy (fl := fl) (free := true) s32.re.ints (by simp at hsz2 ⊢; omega)
        refine ⟨a39, H40, a1, fun b41 H42 h42 => ?_⟩
        obtain ⟨a43, H44, b1, b2, b3, b4, b5⟩ := own_push (fl := fl) a2 a3.len h42 (by have := hk.len; have := k32.len; omega) (by simp at hsz2 ⊢; omega)
        have kk : Keep H32.length H32 H44 := a3.tr (keep_push a2 a3.len b3 b4)
        have hge : ∀ b, At a43 b → H32.length ≤ b := fun b hb => by
          rcases b5 b hb with h | h
          · exact a4 b h
          · exact Nat.le_trans a3.len h
        refine ⟨a43, H44, b1, b2.scal, r.length, by simp, ⟨cutT 0 true 0 (t :: r), la, re ++ [t.c]⟩, by rw [cutT_zero]; simp, ?_, (hk.call k32).tr (kk.less (Nat.le_trans hn (Nat.le_trans hk.len k32.len))), ?_, ?_, ?_⟩
        · have s44 := s32.keep kk
          exact { c := s44.c, p := s44.p, s := s44.s, re := b2.less (Nat.zero_le _), la := s44.la, own := s44.own.less (Nat.le_trans hn hk.len), d0 := s44.d0, d1 := s44.d1, d4 := fun b hb ha => by have := (s32.own.at_lt hb).2; have := hge b ha; omega, d3 := s44.d3 }
        · rw [← hF']
          simp only [List.length_cons, setF]
          rw [if_pos hgt, if_neg h2, cutT_zero]; simp
        · rw [cutT_zero]; simp at hsz ⊢; omega
        · rw [cutT_zero]; simp at hsz2 ⊢; omega
      · simp only [List.length_cons, setF]
        rw [if_neg hle]
  · have h0 : q'.t.length = 0 := by omega
    exact fin (by rw [h0]; rfl)

end Go.RM

/-
  The reference's merge queue: Step, RunQueue, State, EqualQueues.
-/
namespace Go.RM
set_option linter.unusedSimpArgs false
set_option linter.unusedVariables false
set_option maxRecDepth 4000
open Mq

variable {F : Nat → Option RFunc}

abbrev RStepC (F : Nat → Option RFunc) (f : Nat) : Prop := ∀ {fl H Q v0 v1 v2 v3 v4 q x w}, RSt H v0 v1 v2 v3 v4 q → fl ≤ H.length → 1 ≤ w → q.la.length + q.re.length + q.t.length ≤ 2 ^ 16 →
  (∀ r0 r1 r2 r3 r4 H', Keep H.length H H' → RSt H' r0 r1 r2 r3 r4 (stepR w q x).1 → Q (.tuple [.agg [r0, r1, r2, r3, r4], i64 (stepR w q x).2]) H') → Ret F fl f [.agg [v0, v1, v2, v3, v4], .agg [i64 x.k, i64 x.c, i64 x.p], i64 w] H Q

theorem cutT_neg : ∀ (k : Nat) (l : List Tri), cutT (-1) false k l = l
  | _, [] => rfl
  | k, t :: r => by
    rw [cutT, if_neg (by omega), cutT_neg (k + 1) r, Bool.and_false]; rfl

theorem rStep_c {f n1 n2 n3 n4 n5 : Nat} (hF : F f = some (rf_FQueue_Step n1 n2 n3 n4 n5)) (h1 : RIndexC F n1) (h2 : FHasC F n2) (h3 : RInsertC F n3) (h4 : RSettledC F n4) (h5 : RCutC F n5) : RStepC F f := fun {fl H Q v0 v1 v2 v3 v4 q x w} hst hfl hw hsz hq => by
  refine v_FQueue_Step hF _ _ _ _ _ _ _ _ _ ?_
  intro H9 d9 H10 d10 H11 d11
  have k11 := (d9.keep.call d10.keep).call d11.keep
  have s11 := hst.keep k11
  have sc : Scal v0 ∧ Scal v1 ∧ Scal v2 ∧ Scal v3 ∧ Scal v4 := ⟨hst.c.scal, hst.p.scal, hst.s.scal, hst.la.scal, hst.re.scal⟩
  have same : ∀ (r : Int) H', Keep H.length H H' → stepR w q x = (q, r) → Scal v0 ∧ Scal v1 ∧ Scal v2 ∧ Scal v3 ∧ Scal v4 ∧ Q (.tuple [.agg [v0, v1, v2, v3, v4], i64 r]) H' := fun r H' k hr => by
    have := hq v0 v1 v2 v3 v4 H' k
    rw [hr] at this
    exact ⟨sc.1, sc.2.1, sc.2.2.1, sc.2.2.2.1, sc.2.2.2.2, this (hst.keep k)⟩
  have fin : ∀ (q' : RQ) {n : Nat} {u0 u1 u2 u3 u4 : AV} {H1 : Heap}, Keep H.length H H1 → SSt n H1 u0 u1 u2 u3 u4 q' → H.length ≤ n → n ≤ H1.length → q'.la.length + q'.re.length + q'.t.length ≤ 2 ^ 16 + 1 → stepR w q x = (settledR w q', 0) →
      Ret F fl n4 [.agg [u0, u1, u2, u3, u4], i64 w] H1 (fun v60 H59 => ∃ (r54 : AV) (r55 : AV) (r56 : AV) (r57 : AV) (r58 : AV), v60 = (.agg [r54, r55, r56, r57, r58]) ∧ Scal r54 ∧ Scal r55 ∧ Scal r56 ∧ Scal r57 ∧ Scal r58 ∧ Q (.tuple [(.agg [r54, r55, r56, r57, r58]), (.int .i64 0)]) H59) := fun q' n u0 u1 u2 u3 u4 H1 k1 s1 hn hn1 hsz' hr => by
    refine h4 s1 (by omega) hn1 hw (by omega) (by omega) fun r0 r1 r2 r3 r4 H' k' s' => ⟨r0, r1, r2, r3, r4, rfl, s'.c.scal, s'.p.scal, s'.s.scal, s'.la.scal, s'.re.scal, ?_⟩
    have := hq r0 r1 r2 r3 r4 H' (k1.tr (k'.less hn))
    rw [hr] at this
    exact this s'
  refine ⟨fun g => same 4 H11 k11 (by unfold stepR; rw [if_pos g]), fun g1 => ⟨fun g => same 3 H11 k11 ?_, fun g2 => ⟨fun g => same 5 H11 k11 ?_, fun g3 => ?_⟩⟩⟩
  · unfold stepR; rw [if_neg g1, if_pos (by omega)]
  · unfold stepR; rw [if_neg g1, if_neg (by omega), if_pos g]
  refine h1 s11 fun H28 k28 => ⟨_, rfl, fun hk1 => ?_, fun hk1 => ?_⟩
  · have k028 := k11.call k28
    have s28 := s11.keep k28
    have hbase : stepR w q x = if findT x.c q.t ≥ 0 ∨ x.c ∈ q.la ∨ x.c ∈ q.re then (q, 7) else if 10 ≤ q.t.length then (q, 14) else (settledR w { q with t := insT x.c x.p false q.t }, 0) := by
      unfold stepR; rw [if_neg g1, if_neg (by omega), if_neg g3, if_pos hk1]
    refine ⟨fun hf => same 7 H28 k028 (by rw [hbase, if_pos (.inl hf)]), fun hf => h2 s28.la.ints ⟨_, rfl, fun hh => same 7 H28 k028 ?_, fun hh => h2 s28.re.ints ⟨_, rfl, fun hh2 => same 7 H28 k028 ?_, fun hh2 => ⟨_, s28.len, fun h10 => same 14 H28 k028 ?_, fun h10 => ?_⟩⟩⟩⟩
    · rw [hbase, if_pos (.inr (.inl (by simpa using hh)))]
    · rw [hbase, if_pos (.inr (.inr (by simpa using hh2)))]
    all_goals
      have hno : ¬ (findT x.c q.t ≥ 0 ∨ x.c ∈ q.la ∨ x.c ∈ q.re) := fun h => by
        rcases h with h | h | h
        · exact hf h
        · exact hh (by simpa using h)
        · exact hh2 (by simpa using h)
      rw [if_neg hno] at hbase
    · rw [hbase, if_pos (by omega)]
    · rw [if_neg (by omega)] at hbase
      refine h3 s28 (by have := k028.len; omega) (by omega) fun r0 r1 r2 H52 k52 o3 => ⟨r0, r1, r2, v3, v4, rfl, ?_⟩
      exact fin _ (k028.call k52) (o3.sst s28 k52) k028.len k52.len (by have := insT_len x.c x.p false q.t; simp only; omega) hbase
  · have k028 := k11.call k28
    have s28 := s11.keep k28
    have hbase : stepR w q x = match q.t.findIdx? (fun t => t.c == x.c) with
      | none => (q, 6)
      | some i =>
        if x.k = 2 then (settledR w { q with t := cutT i true 0 q.t }, 0)
        else match q.t[i]? with
          | some t => if t.s = 1 then (settledR w { q with t := (cutT (-1) false 0 q.t).set i { t with s := if x.k = 4 then 3 else 2 } }, 0) else (q, 11)
          | none => (q, 6) := by
      unfold stepR; rw [if_neg g1, if_neg (by omega), if_neg g3, if_neg hk1]; rfl
    unfold findT fidx
    cases hfi : q.t.findIdx? (fun t => t.c == x.c) with
    | none =>
      rw [hfi] at hbase
      exact ⟨fun _ => same 6 H28 k028 hbase, fun h => absurd (by decide : (-1 : Int) < 0) h⟩
    | some i =>
      rw [hfi] at hbase
      dsimp only at hbase
      obtain ⟨hi, _⟩ := List.findIdx?_eq_some_iff_findIdx_eq.1 hfi
      refine ⟨fun h => absurd h (by simp), fun _ => ⟨fun hk2 => ?_, fun hk2 => ?_⟩⟩
      · rw [if_pos hk2] at hbase
        refine h5 s28 (by have := k028.len; omega) (by omega) fun r0 r1 r2 H86 k86 o3 => ⟨r0, r1, r2, v3, v4, rfl, ?_⟩
        exact fin _ (k028.call k86) (o3.sst s28 k86) k028.len k86.len (by have := cutT_len (i : Int) true 0 q.t; simp only; omega) hbase
      · rw [if_neg hk2, List.getElem?_eq_getElem hi] at hbase
        dsimp only at hbase
        refine ⟨_, s28.gs hi, fun hne => same 11 H28 k028 (by rw [hbase, if_neg hne]), fun he => ?_⟩
        have hs1 : q.t[i].s = 1 := by simpa using he
        rw [if_pos hs1] at hbase
        refine h5 (i := -1) (d := false) s28 (by have := k028.len; omega) (by omega) fun r0 r1 r2 H112 k112 o3 => ⟨r0, r1, r2, v3, v4, rfl, ?_⟩
        intro H114 d114
        have s112 := o3.sst s28 k112
        rw [cutT_neg] at s112 hbase
        have s114 := s112.keep d114.keep
        have hn : H28.length ≤ H114.length := Nat.le_trans k112.len d114.keep.len
        refine ⟨o3.h0.scal, o3.h1.scal, o3.h2.scal, hst.la.scal, hst.re.scal, ?_⟩
        obtain ⟨b, o, p1, H122, a1, a2, a3, a4⟩ := s114.put (i := i) hi 2 (fl := fl) (by have := k028.len; omega) hn
        have kk := (k028.call (k112.call d114.keep)).tr (a3.less k028.len)
        refine ⟨b, o, p1, H122, a1, fun hk4 => ?_, fun hk4 => fin _ kk a2 k028.len (by omega) (by simp only [List.length_set]; omega) (by rw [hbase, if_neg hk4])⟩
        have hi2 : i < (q.t.set i { q.t[i] with s := 2 }).length := by simpa using hi
        obtain ⟨b', o', p1', H125, b1, b2, b3, b4⟩ := a2.put (i := i) hi2 3 (fl := fl) (by have := k028.len; omega) (by omega)
        simp only [List.set_set, List.getElem_set_self] at b2
        exact ⟨b', o', p1', H125, b1, fin _ (kk.tr (b3.less k028.len)) b2 k028.len (by omega) (by simp only [List.length_set]; omega) (by rw [hbase, if_pos hk4])⟩

/-! ### RunQueue -/

namespace Mq
def r0 : RQ := ⟨[], [], []⟩
def runRE (w : Int) : List Ev → Int → RQ → RQ × Int × Int
  | [], _, q => (q, 0, 0)
  | x :: r, i, q => if (stepR w q x).2 ≠ 0 then (r0, (stepR w q x).2, i) else runRE w r (i + 1) (stepR w q x).1
def runR (w : Int) (evs : List Ev) : RQ × Int × Int :=
  if w < 1 ∨ w > 4 then (r0, 3, -2) else if evs.length > 40 then (r0, 2, -1) else runRE w evs 0 r0
end Mq

theorem settledR_len (w : Int) (q : RQ) : (settledR w q).la.length + (settledR w q).re.length + (settledR w q).t.length ≤ q.la.length + q.re.length + q.t.length := by
  have := (setF_len q.t.length q).2
  unfold settledR
  simp only [startT_len]
  exact this

theorem stepR_len (w : Int) (q : RQ) (x : Ev) : (stepR w q x).1.la.length + (stepR w q x).1.re.length + (stepR w q x).1.t.length ≤ q.la.length + q.re.length + q.t.length + 1 := by
  unfold stepR
  split
  · simp only; omega
  split
  · simp only; omega
  split
  · simp only; omega
  split
  · split
    · simp only; omega
    split
    · simp only; omega
    · have := settledR_len w { q with t := insT x.c x.p false q.t }
      have := insT_len x.c x.p false q.t
      simp only at *; omega
  split
  · simp only; omega
  rename_i i _
  split
  · have := settledR_len w { q with t := cutT i true 0 q.t }
    have := cutT_len (i : Int) true 0 q.t
    simp only at *; omega
  split
  · rename_i t _
    split
    · have := settledR_len w { q with t := (cutT (-1) false 0 q.t).set i { t with s := if x.k = 4 then 3 else 2 } }
      rw [cutT_neg] at this ⊢
      simp only [List.length_set] at *; omega
    · simp only; omega
  · simp only; omega

abbrev RRunC (F : Nat → Option RFunc) (f : Nat) : Prop := ∀ {fl H Q w v} {evs : List Ev}, Arr tEv H v evs →
  (∀ u0 u1 u2 u3 u4 H', Keep H.length H H' → RSt H' u0 u1 u2 u3 u4 (runR w evs).1 → Q (.tuple [.agg [u0, u1, u2, u3, u4], flt (runR w evs).2.1 (runR w evs).2.2]) H') → Ret F fl f [i64 w, v] H Q
theorem rRun_c {f n1 n2 : Nat} (hF : F f = some (rf_FRunQueue n1 n2)) (h1 : FFaultC F n1) (h2 : RStepC F n2) : RRunC F f := fun {fl H Q w v evs} hv hq => by
  refine v_FRunQueue hF _ _ ?_
  intro H2 d2 H3 d3 H4 d4
  have k4 := (d2.keep.call d3.keep).call d4.keep
  refine ⟨fun hw => h1 fun H7 k7 => ⟨_, _, rfl, ?_⟩, fun hw => ⟨_, hv.len, fun h40 => h1 fun H7 k7 => ⟨_, _, rfl, ?_⟩, fun h40 => ?_⟩⟩
  · have := hq .empty .empty .empty .empty .empty H7 (k4.call k7)
    unfold runR at this
    rw [if_pos hw] at this
    exact this RSt.nil
  · have := hq .empty .empty .empty .empty .empty H7 (k4.call k7)
    unfold runR at this
    rw [if_neg hw, if_pos (by omega)] at this
    exact this RSt.nil
  have hrun : runR w evs = runRE w evs 0 Mq.r0 := by unfold runR; rw [if_neg hw, if_neg (by omega)]
  rw [hrun] at hq
  have hvs := hv.small
  refine ⟨fun m _ _ _ _ _ _ _ q24 q25 q26 q27 q28 i29 H' => ∃ (j : Nat) (q : RQ), i29 = j ∧ j + m = evs.length ∧ Keep H.length H H' ∧ RSt H' q24 q25 q26 q27 q28 q ∧ runRE w (evs.drop j) j q = runRE w evs 0 Mq.r0 ∧ q.la.length + q.re.length + q.t.length ≤ j,
    evs.length, ⟨0, Mq.r0, rfl, by omega, k4, RSt.nil, by rw [List.drop_zero]; rfl, Nat.le_refl _⟩, ?_⟩
  rintro m _ _ _ _ _ _ _ q24 q25 q26 q27 q28 _ H34 ⟨j, q, rfl, hm, hk, hs, hr, hsz⟩
  refine ⟨_, hv.len, fun hlt => ?_, fun hge => ?_⟩
  · have hj : j < evs.length := by omega
    rw [List.drop_eq_getElem_cons hj, runRE] at hr
    refine ⟨_, _, _, (hv.keep hk).enc hj, h2 (x := evs[j]) hs (Nat.le_refl _) (by omega) (by omega) fun r40 r41 r42 r43 r44 H46 k46 s46 => ⟨r40, r41, r42, r43, r44, _, rfl, ?_⟩⟩
    intro H48 d48
    have k48 := (hk.call k46).call d48.keep
    refine ⟨s46.c.scal, s46.p.scal, s46.s.scal, s46.la.scal, s46.re.scal, fun hne => h1 fun H56 k56 => ⟨_, _, rfl, ?_⟩, fun h0 => ⟨m - 1, by omega, j + 1, _, wsucc hj hvs, by omega, k48, s46.keep d48.keep, ?_, ?_⟩⟩
    · rw [if_pos hne] at hr
      have := hq .empty .empty .empty .empty .empty H56 (k48.call k56)
      rw [← hr] at this
      exact this RSt.nil
    · rw [if_neg h0] at hr; rw [← hr]; simp
    · have := stepR_len w q evs[j]; omega
  · have hj : j = evs.length := by omega
    subst hj
    rw [List.drop_length, runRE] at hr
    refine h1 fun H61 k61 => ⟨_, _, rfl, hs.c.scal, hs.p.scal, hs.s.scal, hs.la.scal, hs.re.scal, ?_⟩
    have := hq q24 q25 q26 q27 q28 H61 (hk.call k61)
    rw [← hr] at this
    exact this (hs.keep k61)

/-! ### State -/

namespace Mq
def entT (l : List Tri) (k : Nat) (t : Tri) : Ent := ⟨t.c, t.p, t.s == 1, t.s == 2, t.s == 3, if t.s ≠ 0 then (l.take k).map (·.c) else []⟩
def stateR (q : RQ) : QS := ⟨q.t.mapIdx (entT q.t), q.la, q.re⟩
end Mq

theorem ents_arr {n : Nat} {H : Heap} {ve : AV} {l : List (AV × Ent)} (h : Own n H 6 ve l.length (l.map entC).flatten) (haf : ∀ x ∈ l, Own n H 1 x.1 x.2.af.length (ints x.2.af)) : Arr tEnt H ve (l.map (·.2)) := by
  refine ⟨l.map entC, ?_, by rw [List.length_map]; exact h.sl⟩
  have h2 : ∀ x ∈ l, Ints H x.1 x.2.af := fun x hx => (haf x hx).ints
  clear h haf
  induction l with
  | nil => trivial
  | cons x l ih => exact ⟨⟨x.1, rfl, h2 x (by simp)⟩, ih fun y hy => h2 y (by simp [hy])⟩

theorem ents_push {n b fl : Nat} {H H1 : Heap} {ve w : AV} {l : List (AV × Ent)} {x : Ent} (h : Own n H 6 ve l.length (l.map entC).flatten) (haf : ∀ y ∈ l, Own n H 1 y.1 y.2.af.length (ints y.2.af)) (hoff : ∀ y ∈ l, ∀ b, At y.1 b → ¬ At ve b)
    (hw : Own n H 1 w x.af.length (ints x.af)) (hwo : ∀ b, At w b → ¬ At ve b) (hb : NewB H 6 (entC (w, x)) b H1) (hn : n ≤ H.length) (hfl : fl ≤ n) (hl : l.length ≤ 2 ^ 20) :
    ∃ v' H2, appA fl true 6 48 H1 ve (.slice b 0 1 (some 1)) = some (v', H2) ∧ Own n H2 6 v' (l ++ [(w, x)]).length ((l ++ [(w, x)]).map entC).flatten ∧ (∀ y ∈ l ++ [(w, x)], Own n H2 1 y.1 y.2.af.length (ints y.2.af)) ∧ (∀ y ∈ l ++ [(w, x)], ∀ b, At y.1 b → ¬ At v' b) ∧ Keep n H H2 := by
  have hsc : (entC (w, x)).all AV.scalar = true := by
    show (true && (true && (true && (true && (true && (w.scalar && true)))))) = true
    rw [hw.scal.2]; rfl
  obtain ⟨v', H2, a1, a2, a3, a4, a5⟩ := (h.keep hb.keep).push (bytes := 48) (fl := fl) (by decide) (hb.sl (n := 1) rfl) (Nat.le_trans hn hb.keep.len) hfl hsc (by omega) (by decide)
  have hl1 := hb.keep.len
  have fr : ∀ y, y < H.length → ¬ At ve y → H2[y]? = H[y]? := fun y hy hne => by rw [a4 y (by omega) hne, hb.keep.get y hy]
  have hall : ∀ y ∈ l ++ [(w, x)], Own n H 1 y.1 y.2.af.length (ints y.2.af) ∧ ∀ b, At y.1 b → ¬ At ve b := fun y hy => by
    rcases List.mem_append.1 hy with hy | hy
    · exact ⟨haf y hy, hoff y hy⟩
    · obtain rfl := List.mem_singleton.1 hy; exact ⟨hw, hwo⟩
  refine ⟨v', H2, a1, ?_, fun y hy => (hall y hy).1.frame fun c hc => fr c ((hall y hy).1.at_lt hc).2 ((hall y hy).2 c hc), fun y hy c hc hv => ?_, ⟨hn, Nat.le_trans hl1 a3, fun c hc => fr c (by omega) fun ha => by have := (h.at_lt ha).1; omega⟩⟩
  · rw [List.length_append, List.map_append, List.flatten_append]; simpa using a2
  · rcases a5 c hv with h1 | h1
    · exact (hall y hy).2 c hc h1
    · have := ((hall y hy).1.at_lt hc).2; omega

abbrev RStateC (F : Nat → Option RFunc) (f : Nat) : Prop := ∀ {fl H Q v0 v1 v2 v3 v4 q}, RSt H v0 v1 v2 v3 v4 q → fl ≤ H.length → q.t.length ≤ 2 ^ 18 →
  (∀ ve H', Keep H.length H H' → Arr tEnt H' ve (stateR q).es → Q (.agg [ve, v3, v4]) H') → Ret F fl f [.agg [v0, v1, v2, v3, v4]] H Q
theorem rState_c {f : Nat} (hF : F f = some rf_FQueue_State) : RStateC F f := fun {fl H Q v0 v1 v2 v3 v4 q} hst hfl hl hq => by
  refine v_FQueue_State hF _ _ _ _ _ ?_
  intro H5 d5 H6 d6
  refine ⟨hst.la.scal, hst.re.scal, ?_⟩
  intro H9 d9
  have k9 := (d5.keep.call d6.keep).call d9.keep
  have s9 := hst.keep k9
  have hn9 := k9.len
  refine ⟨fun m i out17 out18 out19 H' => ∃ (j : Nat) (l : List (AV × Ent)), i = j ∧ j + m = q.t.length ∧ v3 = out18 ∧ v4 = out19 ∧ Keep H9.length H9 H' ∧ Own H9.length H' 6 out17 l.length (l.map entC).flatten ∧ (∀ y ∈ l, Own H9.length H' 1 y.1 y.2.af.length (ints y.2.af)) ∧ (∀ y ∈ l, ∀ b, At y.1 b → ¬ At out17 b) ∧ l.map (·.2) = (stateR q).es.take j,
    q.t.length, ⟨0, [], rfl, by omega, rfl, rfl, Keep.refl H9, Own.nil, (fun y hy => by cases hy), (fun y hy => by cases hy), by simp⟩, ?_⟩
  rintro m _ out17 _ _ H20 ⟨j, l, rfl, hm, rfl, rfl, hk, ho, haf, hoff, hl'⟩
  have s20 := s9.keep hk
  have hes : (stateR q).es.length = q.t.length := by simp [stateR]
  have hll : l.length = min j q.t.length := by have := congrArg List.length hl'; simpa [hes] using this
  refine ⟨_, s20.len, fun hlt => ?_, fun hge => ?_⟩
  · have hj : j < q.t.length := by omega
    have hje : j < (stateR q).es.length := by omega
    have he : (stateR q).es[j] = entT q.t j q.t[j] := by simp [stateR]
    have htk : (stateR q).es.take (j + 1) = (stateR q).es.take j ++ [entT q.t j q.t[j]] := by rw [List.take_succ_eq_append_getElem hje, he]
    refine ⟨_, s20.gc hj, _, s20.gp hj, _, s20.gs hj, _, s20.gs hj, _, s20.gs hj, ?_⟩
    intro H32 d32
    have s32 := s20.keep d32.keep
    have k32 := hk.call d32.keep
    have ho32 := ho.keep d32.keep
    refine ⟨_, s32.gs hj, fun hne => ?_, fun heq => ?_⟩
    · obtain ⟨s35, t1, t2⟩ := s32.c.ints.upto (n := j) (by simp; omega)
      obtain ⟨a36, H37, b1, b2, b3, b4⟩ := own_copy (fl := fl) (free := true) t2 (by simp; omega)
      refine ⟨s35, t1, a36, H37, b1, b2.scal, fun b39 H40 h40 => ?_⟩
      have e1 : (entT q.t j q.t[j]).af = (q.t.map (·.c)).take j := by simp only [entT]; rw [if_pos hne, List.map_take]
      obtain ⟨v', H42, c1, c2, c3, c4, c5⟩ := ents_push (fl := fl) (w := a36) (x := entT q.t j q.t[j]) (ho32.keep b3) (fun y hy => ((haf y hy).keep d32.keep).keep b3) hoff (by rw [e1]; exact b2.less k32.len) (fun c hc ha => by
        have := b4 c hc; have := (ho32.at_lt ha).2; omega) h40 (Nat.le_trans k32.len b3.len) (by omega) (by omega)
      refine ⟨v', H42, c1, c2.scal, m - 1, by omega, j + 1, _, wsucc hj (by omega), by omega, rfl, rfl, (k32.call b3).tr c5, c2, c3, c4, ?_⟩
      rw [List.map_append, hl', htk]; rfl
    · intro b45 H46 h46
      have h0 : q.t[j].s = 0 := by simpa using heq
      have e1 : (entT q.t j q.t[j]).af = [] := by simp only [entT]; rw [if_neg (by simp [h0])]
      have e2 : entT q.t j q.t[j] = ⟨q.t[j].c, q.t[j].p, q.t[j].s == 1, q.t[j].s == 2, q.t[j].s == 3, []⟩ := by rw [← e1]; rfl
      obtain ⟨v', H42, c1, c2, c3, c4, c5⟩ := ents_push (fl := fl) (w := .empty) (x := entT q.t j q.t[j]) ho32 (fun y hy => (haf y hy).keep d32.keep) hoff (by rw [e1]; exact Own.nil) (fun c hc => absurd hc at_empty) (by rw [e2]; exact h46) k32.len (by omega) (by omega)
      refine ⟨v', H42, c1, c2.scal, m - 1, by omega, j + 1, _, wsucc hj (by omega), by omega, rfl, rfl, k32.tr c5, c2, c3, c4, ?_⟩
      rw [List.map_append, hl', htk]; rfl
  · have hj : j = q.t.length := by omega
    subst hj
    have hl2 : l.map (·.2) = (stateR q).es := by rw [hl', List.take_of_length_le (by omega)]
    refine ⟨ho.scal, hst.la.scal, hst.re.scal, hq out17 H20 (k9.call hk) ?_⟩
    rw [← hl2]
    exact ents_arr ho haf

/-! ### EqualQueues -/

abbrev REqC (F : Nat → Option RFunc) (f : Nat) : Prop := ∀ {fl H Q a0 a1 a2 b0 b1 b2} {x y : QS}, Arr tEnt H a0 x.es → Ints H a1 x.la → Ints H a2 x.re → Arr tEnt H b0 y.es → Ints H b1 y.la → Ints H b2 y.re →
  (∀ H', Keep H.length H H' → Q (.bool (decide (x.es = y.es ∧ x.la = y.la ∧ x.re = y.re))) H') → Ret F fl f [.agg [a0, a1, a2], .agg [b0, b1, b2]] H Q
theorem rEq_c {f n1 : Nat} (hF : F f = some (rf_FEqualQueues n1)) (h1 : FEqualIntsC F n1) : REqC F f := fun {fl H Q a0 a1 a2 b0 b1 b2 x y} ha0 ha1 ha2 hb0 hb1 hb2 hq => by
  refine v_FEqualQueues hF _ _ _ _ _ _ ?_
  intro H6 d6 H7 d7
  have k7 := d6.keep.call d7.keep
  have no : ¬ (x.es = y.es ∧ x.la = y.la ∧ x.re = y.re) → ∀ H', Keep H.length H H' → Q (.bool false) H' := fun h H' k => by
    have := hq H' k; rw [decide_eq_false h] at this; exact this
  refine h1 (ha1.keep k7) (hb1.keep k7) ⟨_, rfl, fun hne => ⟨_, ha0.len, _, hb0.len, no (fun h => hne (by simp [h.2.1])) H7 k7⟩, fun he1 => h1 (ha2.keep k7) (hb2.keep k7) ⟨_, rfl, _, ha0.len, _, hb0.len, fun hne => no (fun h => ?_) H7 k7, fun hok => ?_⟩⟩
  · rcases hne with h2 | h2
    · exact h2 (by simp [h.2.2])
    · exact h2 (by rw [h.1])
  have hla : x.la = y.la := by simpa using he1
  have hre : x.re = y.re := by
    have := fun h => hok (.inl h)
    simpa using this
  have hlen : x.es.length = y.es.length := by
    have : ¬ ((x.es.length : Int) ≠ (y.es.length : Int)) := fun h => hok (.inr h)
    omega
  have hsm := ha0.small
  refine ⟨fun m i H' => ∃ j : Nat, i = j ∧ j + m = x.es.length ∧ Keep H.length H H' ∧ x.es.take j = y.es.take j, x.es.length, ⟨0, rfl, by omega, k7, by simp⟩, ?_⟩
  rintro m _ H25 ⟨j, rfl, hm, hk, hpre⟩
  refine ⟨_, ha0.len, fun hlt => ?_, fun hge => ?_⟩
  · have hj : j < x.es.length := by omega
    have hj' : j < y.es.length := by omega
    obtain ⟨c, ⟨w, rfl, hw⟩, hg, _⟩ := (ha0.keep hk).get hj
    refine ⟨_, _, _, _, _, _, hg, ?_⟩
    intro H34 d34
    obtain ⟨c', ⟨w', rfl, hw'⟩, hg', _⟩ := ((hb0.keep hk).keep d34.keep).get hj'
    refine ⟨hw.scal, _, _, _, _, _, _, hg', ?_⟩
    intro H43 d43
    have k43 := (hk.call d34.keep).call d43.keep
    have hdiff : x.es[j] ≠ y.es[j] → ¬ (x.es = y.es ∧ x.la = y.la ∧ x.re = y.re) := fun h hh => h (by simp only [hh.1])
    refine ⟨hw'.scal, fun hne => no (hdiff fun he => ?_) H43 k43, fun heq => h1 ((hw.keep d34.keep).keep d43.keep) (hw'.keep d43.keep) ⟨_, rfl, fun hne => no (hdiff fun he => hne (by simp [he])) H43 k43, fun hae => ⟨m - 1, by omega, j + 1, wsucc hj hsm, by omega, k43, ?_⟩⟩⟩
    · simp only [he, ne_eq, not_true_eq_false, or_self] at hne
    · rw [List.take_succ_eq_append_getElem hj, List.take_succ_eq_append_getElem hj', hpre]
      congr 2
      have hae' : x.es[j].af = y.es[j].af := by simpa using hae
      have h1 : x.es[j].ch = y.es[j].ch := by
        rcases Decidable.em (x.es[j].ch = y.es[j].ch) with h | h
        · exact h
        · exact absurd (.inl (.inl (.inl (.inl h)))) heq
      have h2 : x.es[j].pr = y.es[j].pr := by
        rcases Decidable.em (x.es[j].pr = y.es[j].pr) with h | h
        · exact h
        · exact absurd (.inl (.inl (.inl (.inr h)))) heq
      have h3 : x.es[j].te = y.es[j].te := by
        rcases Decidable.em (x.es[j].te = y.es[j].te) with h | h
        · exact h
        · exact absurd (.inl (.inl (.inr h))) heq
      have h4 : x.es[j].pa = y.es[j].pa := by
        rcases Decidable.em (x.es[j].pa = y.es[j].pa) with h | h
        · exact h
        · exact absurd (.inl (.inr h)) heq
      have h5 : x.es[j].fa = y.es[j].fa := by
        rcases Decidable.em (x.es[j].fa = y.es[j].fa) with h | h
        · exact h
        · exact absurd (.inr h) heq
      have hex : ∀ e e' : Ent, e.ch = e'.ch → e.pr = e'.pr → e.te = e'.te → e.pa = e'.pa → e.fa = e'.fa → e.af = e'.af → e = e' := fun e e' => by
        cases e; cases e'; rintro rfl rfl rfl rfl rfl rfl; rfl
      exact hex _ _ h1 h2 h3 h4 h5 hae'
  · have hj : j = x.es.length := by omega
    subst hj
    have : x.es = y.es := by
      rw [List.take_length, hlen, List.take_length] at hpre; exact hpre
    have h := hq H25 hk
    rw [decide_eq_true ⟨this, hla, hre⟩] at h; exact h

end Go.RM

/-
  Package mergequeue: what holds of every state.
-/
namespace Go.RM
set_option linter.unusedSimpArgs false
set_option linter.unusedVariables false
open Mq

namespace Mq
def exc (e : Ent) : Prop := ¬ (e.te = true ∧ e.pa = true) ∧ ¬ (e.te = true ∧ e.fa = true) ∧ ¬ (e.pa = true ∧ e.fa = true)
abbrev chs (l : List Ent) : List Int := l.map (·.ch)
def allE (q : QS) : List Int := chs q.es ++ (q.la ++ q.re)
structure WInv (q : QS) : Prop where
  nd : (allE q).Nodup
  ex : ∀ e ∈ q.es, exc e
  af : ∀ i (h : i < q.es.length), q.es[i].af = if idle q.es[i] = true then [] else chs (q.es.take i)
  so : q.es.Pairwise fun a b => a.pr ≥ b.pr
  rg : ∀ e ∈ q.es, 1 ≤ e.ch ∧ e.ch ≤ 1000000000
structure QInv (w : Int) (q : QS) : Prop extends WInv q where
  st : ∀ i (h : i < q.es.length), (i : Int) < w → idle q.es[i] = false
  hd : ∀ e, q.es.head? = some e → e.te = true
end Mq

theorem exc_blank (e : Ent) : exc (Mq.blank e) := by unfold exc Mq.blank; simp
theorem chs_reset (i : Nat) (l : List Ent) : chs (resetFrom i l) = chs l := by
  refine List.ext_getElem (by simp [resetFrom]) fun k h1 h2 => ?_
  simp only [List.getElem_map, resetFrom, List.getElem_mapIdx]
  split <;> rfl
theorem reset_get {i : Nat} {l : List Ent} {k : Nat} (h : k < l.length) : (resetFrom i l)[k]'(by simp [resetFrom]; exact h) = if i ≤ k then Mq.blank l[k] else l[k] := by simp [resetFrom]
theorem chs_take (l : List Ent) (i : Nat) : chs (l.take i) = (chs l).take i := List.map_take

theorem reset_ex {i : Nat} {l : List Ent} (h : ∀ k (hk : k < l.length), k < i → exc l[k]) : ∀ e ∈ resetFrom i l, exc e := by
  intro e he
  obtain ⟨k, hk, rfl⟩ := List.getElem_of_mem he
  rw [resetFrom_len] at hk
  rw [reset_get hk]
  split
  · exact exc_blank _
  · exact h k hk (by omega)
theorem reset_af {i : Nat} {l : List Ent} (h : ∀ k (hk : k < l.length), k < i → l[k].af = if idle l[k] = true then [] else chs (l.take k)) :
    ∀ k (hk : k < (resetFrom i l).length), (resetFrom i l)[k].af = if idle (resetFrom i l)[k] = true then [] else chs ((resetFrom i l).take k) := by
  intro k hk
  rw [resetFrom_len] at hk
  rw [reset_get hk, chs_take, chs_reset, ← chs_take]
  split
  · rfl
  · exact h k hk (by omega)
theorem pw_of_pr {l l' : List Ent} (hp : l.Pairwise fun a b => a.pr ≥ b.pr) (h : l'.map (·.pr) = l.map (·.pr)) : l'.Pairwise fun a b => a.pr ≥ b.pr := by
  have h1 : (l.map (·.pr)).Pairwise (fun a b : Int => a ≥ b) := List.pairwise_map.2 hp
  rw [← h] at h1
  exact List.pairwise_map.1 h1
theorem prs_reset (i : Nat) (l : List Ent) : (resetFrom i l).map (·.pr) = l.map (·.pr) := by
  refine List.ext_getElem (by simp [resetFrom]) fun k h1 h2 => ?_
  simp only [List.getElem_map, resetFrom, List.getElem_mapIdx]
  split <;> rfl
theorem reset_rg {i : Nat} {l : List Ent} (h : ∀ e ∈ l, 1 ≤ e.ch ∧ e.ch ≤ 1000000000) : ∀ e ∈ resetFrom i l, 1 ≤ e.ch ∧ e.ch ≤ 1000000000 := by
  intro e he
  have : e.ch ∈ chs (resetFrom i l) := List.mem_map_of_mem he
  rw [chs_reset] at this
  obtain ⟨x, hx, hxe⟩ := List.mem_map.1 this
  rw [← hxe]; exact h x hx

theorem any_ch {l : List Ent} {c : Int} : l.any (fun e => e.ch == c) = decide (c ∈ chs l) := by
  rw [Bool.eq_iff_iff, List.any_eq_true, decide_eq_true_eq]
  constructor
  · rintro ⟨x, hx, he⟩
    have : x.ch = c := by simpa using he
    rw [← this]; exact List.mem_map_of_mem hx
  · intro h
    obtain ⟨x, hx, he⟩ := List.mem_map.1 h
    exact ⟨x, hx, by simp [he]⟩

theorem perm_insert (l : List Int) (i : Nat) (c : Int) : (l.take i ++ c :: l.drop i).Perm (c :: l) := by
  have h := List.perm_middle (a := c) (l₁ := l.take i) (l₂ := l.drop i)
  rwa [List.take_append_drop] at h

theorem addE_ok {q q' : QS} {c p : Int} (h : addE q c p = (q', 0)) : c ∉ allE q ∧ q.es.length < 10 ∧ q' = { q with es := resetFrom (posE p q.es) (q.es.take (posE p q.es) ++ mk c p :: q.es.drop (posE p q.es)) } := by
  unfold addE at h
  split at h
  · simp at h
  · rename_i hk
    split at h
    · simp at h
    · rename_i h10
      simp only [Prod.mk.injEq, and_true] at h
      refine ⟨?_, by omega, h.symm⟩
      rw [any_ch] at hk
      simp only [Bool.or_eq_true, decide_eq_true_eq, not_or] at hk
      unfold allE
      simp only [List.mem_append, not_or]
      exact ⟨hk.1.1, hk.1.2, hk.2⟩

theorem all_insert (q : QS) (i : Nat) (c p : Int) : (allE { q with es := resetFrom i (q.es.take i ++ mk c p :: q.es.drop i) }).Perm (c :: allE q) := by
  unfold allE
  simp only [chs_reset]
  have : chs (q.es.take i ++ mk c p :: q.es.drop i) = (chs q.es).take i ++ c :: (chs q.es).drop i := by simp [chs, List.map_take, List.map_drop]
  rw [this]
  exact (perm_insert _ _ _).append_right _

theorem addE_winv {q q' : QS} {c p : Int} (h : WInv q) (hc : 1 ≤ c ∧ c ≤ 1000000000) (ha : addE q c p = (q', 0)) : WInv q' := by
  obtain ⟨h1, h2, rfl⟩ := addE_ok ha
  have hpos : posE p q.es ≤ q.es.length := List.findIdx_le_length
  generalize hi : posE p q.es = i at hpos
  have hlt : ∀ k (hk : k < q.es.length), k < i → p ≤ q.es[k].pr := fun k hk hki => by
    unfold posE at hi
    have := List.not_of_lt_findIdx (p := fun e : Ent => decide (e.pr < p)) (xs := q.es) (i := k) (by omega)
    simpa using this
  have hge : ∀ k (hk : k < q.es.length), i ≤ k → q.es[k].pr < p := fun k hk hki => by
    have hil : i < q.es.length := by omega
    have h0 : q.es[i].pr < p := by
      unfold posE at hi
      have := List.findIdx_getElem (p := fun e : Ent => decide (e.pr < p)) (xs := q.es) (w := by omega)
      simp only [hi] at this
      simpa using this
    rcases Nat.eq_or_lt_of_le hki with h5 | h5
    · subst h5; exact h0
    · have := List.pairwise_iff_getElem.1 h.so i k hil hk (by omega)
      omega
  have hget : ∀ k (hk : k < q.es.length), k < i → (q.es.take i ++ mk c p :: q.es.drop i)[k]'(by simp; omega) = q.es[k] := fun k hk hki => by
    rw [List.getElem_append_left (by simp; omega), List.getElem_take]
  refine ⟨?_, ?_, ?_, ?_, ?_⟩
  · rw [(all_insert q i c p).nodup_iff, List.nodup_cons]
    exact ⟨h1, h.nd⟩
  · refine reset_ex fun k hk hki => ?_
    rw [hget k (by omega) hki]
    exact h.ex _ (List.getElem_mem _)
  · refine reset_af fun k hk hki => ?_
    rw [hget k (by omega) hki, h.af k (by omega), List.take_append_of_le_length (by simp; omega), List.take_take, Nat.min_eq_left (by omega)]
  · refine pw_of_pr (l := q.es.take i ++ mk c p :: q.es.drop i) ?_ (prs_reset _ _)
    rw [List.pairwise_append]
    refine ⟨h.so.sublist (List.take_sublist _ _), List.pairwise_cons.2 ⟨fun x hx => ?_, h.so.sublist (List.drop_sublist _ _)⟩, fun a ha b hb => ?_⟩
    · obtain ⟨k, hk, rfl⟩ := List.getElem_of_mem hx
      rw [List.getElem_drop]
      have := hge (i + k) (by simp at hk; omega) (by omega)
      show p ≥ _; omega
    · obtain ⟨k, hk, rfl⟩ := List.getElem_of_mem ha
      rw [List.getElem_take]
      have hk' : k < i := by simp at hk; omega
      have h1 := hlt k (by omega) hk'
      rcases List.mem_cons.1 hb with rfl | hb
      · exact h1
      · obtain ⟨k2, hk2, rfl⟩ := List.getElem_of_mem hb
        rw [List.getElem_drop]
        have := hge (i + k2) (by simp at hk2; omega) (by omega)
        omega
  · refine reset_rg fun e he => ?_
    rcases List.mem_append.1 he with he | he
    · exact h.rg e (List.mem_of_mem_take he)
    · rcases List.mem_cons.1 he with rfl | he
      · exact hc
      · exact h.rg e (List.mem_of_mem_drop he)

theorem chs_erase (l : List Ent) (i : Nat) : chs (l.eraseIdx i) = (chs l).eraseIdx i := eraseIdx_map _ l i

theorem removeE_winv {q : QS} {i : Nat} (h : WInv q) (hi : i < q.es.length) : WInv { q with es := resetFrom i (q.es.eraseIdx i) } := by
  have hget : ∀ k, k < i → ∀ hk : k < (q.es.eraseIdx i).length, (q.es.eraseIdx i)[k] = q.es[k]'(by rw [List.length_eraseIdx, if_pos hi] at hk; omega) := fun k hki hk => by
    simp [List.getElem_eraseIdx, hki]
  refine ⟨?_, ?_, ?_, ?_, ?_⟩
  · unfold allE
    simp only [chs_reset, chs_erase]
    exact h.nd.sublist ((List.eraseIdx_sublist _ _).append_right _)
  · refine reset_ex fun k hk hki => ?_
    rw [hget k hki hk]
    exact h.ex _ (List.getElem_mem _)
  · refine reset_af fun k hk hki => ?_
    rw [hget k hki hk, h.af k]
    have : (q.es.eraseIdx i).take k = q.es.take k := by
      rw [List.eraseIdx_eq_take_drop_succ, List.take_append_of_le_length (by simp; omega), List.take_take, Nat.min_eq_left (by omega)]
    rw [this]
  · exact pw_of_pr (h.so.sublist (List.eraseIdx_sublist _ _)) (prs_reset _ _)
  · exact reset_rg fun e he => h.rg e (mem_erase he)

theorem setE_winv {q : QS} {i : Nat} {k : Int} (h : WInv q) (hi : i < q.es.length) (ht : q.es[i].te = true) (hk : k = 3 ∨ k = 4) : WInv { q with es := q.es.set i (resE q.es[i] k) } := by
  have hch : chs (q.es.set i (resE q.es[i] k)) = chs q.es := by
    refine List.ext_getElem (by simp) fun j h1 h2 => ?_
    simp only [List.getElem_map, List.getElem_set]
    split
    · rename_i e; subst e; rfl
    · rfl
  have hidle : idle (resE q.es[i] k) = false := by
    unfold idle resE
    rcases hk with rfl | rfl <;> simp
  have hidle0 : idle q.es[i] = false := by unfold idle; rw [ht]; rfl
  refine ⟨?_, ?_, ?_, ?_, ?_⟩
  · unfold allE; simp only [hch]; exact h.nd
  · intro e he
    rcases List.mem_or_eq_of_mem_set he with he | rfl
    · exact h.ex e he
    · unfold exc resE; rcases hk with rfl | rfl <;> simp
  · intro j hj
    simp only [List.length_set] at hj
    simp only [List.getElem_set, chs_take, hch]
    rw [← chs_take]
    split
    · rename_i e; subst e
      rw [hidle]
      have := h.af i hi
      rw [hidle0] at this
      exact this
    · exact h.af j hj
  · refine pw_of_pr h.so ?_
    refine List.ext_getElem (by simp) fun j h1 h2 => ?_
    simp only [List.getElem_map, List.getElem_set]
    split
    · rename_i e; subst e; rfl
    · rfl
  · intro e he
    rcases List.mem_or_eq_of_mem_set he with he | rfl
    · exact h.rg e he
    · exact h.rg q.es[i] (List.getElem_mem hi)

theorem stepE_ok {q q' : QS} {x : Ev} (h : stepE q x = (q', 0)) : (1 ≤ x.c ∧ x.c ≤ 1000000000) ∧
    ((x.k = 1 ∧ addE q x.c x.p = (q', 0)) ∨ ∃ i, ∃ hi : i < q.es.length, q.es.findIdx? (fun e => e.ch == x.c) = some i ∧ q.es[i].ch = x.c ∧
      ((x.k = 2 ∧ q' = { q with es := resetFrom i (q.es.eraseIdx i) }) ∨ ((x.k = 3 ∨ x.k = 4) ∧ q.es[i].te = true ∧ q' = { q with es := q.es.set i (resE q.es[i] x.k) }))) := by
  unfold stepE at h
  split at h
  · simp at h
  rename_i g1
  split at h
  · simp at h
  rename_i g2
  split at h
  · simp at h
  refine ⟨by omega, ?_⟩
  split at h
  · rename_i hk; exact .inl ⟨hk, h⟩
  rename_i hk1
  right
  split at h
  · simp at h
  rename_i i hfi
  obtain ⟨hi, hp, _⟩ := List.findIdx?_eq_some_iff_getElem.1 hfi
  refine ⟨i, hi, hfi, by simpa using hp, ?_⟩
  split at h
  · rename_i hk2
    simp only [Prod.mk.injEq, and_true] at h
    exact .inl ⟨hk2, h.symm⟩
  · rename_i hk2
    rw [List.getElem?_eq_getElem hi] at h
    dsimp only at h
    split at h
    · rename_i hte
      simp only [Prod.mk.injEq, and_true] at h
      exact .inr ⟨by omega, hte, h.symm⟩
    · simp at h

theorem stepE_winv {q q' : QS} {x : Ev} (h : WInv q) (hs : stepE q x = (q', 0)) : WInv q' := by
  obtain ⟨hc, h1 | ⟨i, hi, _, _, h1 | h1⟩⟩ := stepE_ok hs
  · exact addE_winv h hc h1.2
  · rw [h1.2]; exact removeE_winv h hi
  · rw [h1.2.2]; exact setE_winv h hi h1.2.1 h1.1

theorem land_winv {e : Ent} {r : List Ent} {la re : List Int} (h : WInv ⟨e :: r, la, re⟩) : WInv ⟨r.map (dropE e.ch), la ++ [e.ch], re⟩ := by
  have hch : chs (r.map (dropE e.ch)) = chs r := by unfold chs; rw [List.map_map]; rfl
  have hnd := h.nd
  unfold allE at hnd
  simp only [List.map_cons, List.cons_append, List.nodup_cons] at hnd
  have hne : ∀ x ∈ chs r, x ≠ e.ch := fun x hx he => hnd.1 (by rw [← he]; exact List.mem_append_left _ hx)
  refine ⟨?_, ?_, ?_, ?_, ?_⟩
  · unfold allE
    simp only [hch]
    have hp : (chs r ++ (la ++ [e.ch] ++ re)).Perm (e.ch :: (chs r ++ (la ++ re))) := by
      have h1 : (la ++ [e.ch] ++ re).Perm (e.ch :: (la ++ re)) := by
        rw [List.append_assoc]; exact List.perm_middle
      exact (h1.append_left _).trans List.perm_middle
    rw [hp.nodup_iff, List.nodup_cons]; exact hnd
  · intro x hx
    obtain ⟨y, hy, rfl⟩ := List.mem_map.1 hx
    exact h.ex y (List.mem_cons_of_mem _ hy)
  · intro i hi
    have hi' : i < r.length := by simpa using hi
    have := h.af (i + 1) (by simp; omega)
    simp only [List.getElem_cons_succ, List.take_succ_cons, List.map_cons] at this
    simp only [List.getElem_map, chs_take, hch]
    rw [← chs_take]
    show ((r[i]).af.filter fun x => !(x == e.ch)) = if idle r[i] = true then [] else chs (r.take i)
    rw [this]
    by_cases hid : idle r[i] = true
    · rw [if_pos hid, if_pos hid]; rfl
    · rw [if_neg hid, if_neg hid, List.filter_cons]
      simp only [beq_self_eq_true, Bool.not_true, Bool.false_eq_true, if_false]
      rw [List.filter_eq_self.2]
      intro x hx
      have : x ∈ chs r := by rw [List.map_take] at hx; exact List.mem_of_mem_take hx
      simp [hne x this]
  · refine pw_of_pr (l := r) (List.pairwise_cons.1 h.so).2 ?_
    rw [List.map_map]; rfl
  · intro x hx
    obtain ⟨y, hy, rfl⟩ := List.mem_map.1 hx
    exact h.rg y (List.mem_cons_of_mem _ hy)

theorem reject_winv {e : Ent} {r : List Ent} {la re : List Int} (h : WInv ⟨e :: r, la, re⟩) : WInv ⟨r.map Mq.blank, la, re ++ [e.ch]⟩ := by
  have hch : chs (r.map Mq.blank) = chs r := by unfold chs; rw [List.map_map]; rfl
  have hnd := h.nd
  unfold allE at hnd
  simp only [List.map_cons, List.cons_append, List.nodup_cons] at hnd
  refine ⟨?_, ?_, ?_, ?_, ?_⟩
  · unfold allE
    simp only [hch]
    have hp : (chs r ++ (la ++ (re ++ [e.ch]))).Perm (e.ch :: (chs r ++ (la ++ re))) := by
      rw [← List.append_assoc, ← List.append_assoc, ← List.append_assoc]
      exact List.perm_append_comm
    rw [hp.nodup_iff, List.nodup_cons]; exact hnd
  · intro x hx
    obtain ⟨y, hy, rfl⟩ := List.mem_map.1 hx
    exact exc_blank y
  · intro i hi
    simp only [List.getElem_map]
    rfl
  · refine pw_of_pr (l := r) (List.pairwise_cons.1 h.so).2 ?_
    rw [List.map_map]; rfl
  · intro x hx
    obtain ⟨y, hy, rfl⟩ := List.mem_map.1 hx
    exact h.rg y (List.mem_cons_of_mem _ hy)

theorem settleF_winv : ∀ (n : Nat) {q : QS}, WInv q → WInv (settleF n q)
  | 0, _, h => h
  | n + 1, ⟨[], la, re⟩, h => h
  | n + 1, ⟨e :: r, la, re⟩, h => by
    simp only [settleF]
    split
    · exact settleF_winv n (reject_winv h)
    · split
      · exact settleF_winv n (land_winv h)
      · exact h

theorem settleF_head : ∀ (n : Nat) (q : QS), q.es.length ≤ n → ∀ e, (settleF n q).es.head? = some e → e.pa = false ∧ e.fa = false
  | 0, ⟨[], la, re⟩, _, e, he => by simp [settleF] at he
  | 0, ⟨_ :: _, la, re⟩, h, e, he => by simp at h
  | n + 1, ⟨[], la, re⟩, _, e, he => by simp [settleF] at he
  | n + 1, ⟨x :: r, la, re⟩, h, e, he => by
    simp only [settleF] at he
    split at he
    · exact settleF_head n _ (by simp at h ⊢; omega) e he
    · split at he
      · exact settleF_head n _ (by simp at h ⊢; omega) e he
      · simp only [List.head?_cons, Option.some.injEq] at he
        subst he
        rename_i h1 h2
        exact ⟨by simpa using h2, by simpa using h1⟩

theorem settleE_inv {w : Int} {q : QS} (hw : 1 ≤ w) (h : WInv q) : QInv w (settleE w q) := by
  have h1 := settleF_winv q.es.length h
  have h2 := settleF_head q.es.length q (Nat.le_refl _)
  unfold settleE
  simp only
  generalize settleF q.es.length q = q1 at h1 h2
  generalize hn : min w.toNat q1.es.length = n
  have hch : chs (startE n q1.es) = chs q1.es := by
    refine List.ext_getElem (by simp [startE]) fun k a b => ?_
    simp only [List.getElem_map, startE, List.getElem_mapIdx]
    split <;> rfl
  refine ⟨⟨?_, ?_, ?_, ?_, ?_⟩, ?_, ?_⟩
  · unfold allE; simp only [hch]; exact h1.nd
  · intro e he
    obtain ⟨k, hk, rfl⟩ := List.getElem_of_mem he
    rw [startE_len] at hk
    rw [startE_get hk]
    split
    · rename_i hc
      have hid := hc.2
      unfold idle at hid
      simp only [Bool.and_eq_true, Bool.not_eq_true'] at hid
      unfold exc
      simp [hid.1.2, hid.2]
    · exact h1.ex _ (List.getElem_mem hk)
  · intro i hi
    simp only [startE_len] at hi
    simp only [startE_get hi, chs_take, hch]
    rw [← chs_take]
    by_cases hc : i < n ∧ idle q1.es[i] = true
    · rw [if_pos hc]
      simp [idle]
    · rw [if_neg hc]; exact h1.af i hi
  · refine pw_of_pr h1.so ?_
    refine List.ext_getElem (by simp [startE]) fun k a b => ?_
    simp only [List.getElem_map, startE, List.getElem_mapIdx]
    split <;> rfl
  · intro e he
    have : e.ch ∈ chs (startE n q1.es) := List.mem_map_of_mem he
    rw [hch] at this
    obtain ⟨x, hx, hxe⟩ := List.mem_map.1 this
    rw [← hxe]; exact h1.rg x hx
  · intro i hi hiw
    simp only [startE_len] at hi
    simp only [startE_get hi]
    by_cases hid : idle q1.es[i] = true
    · rw [if_pos ⟨by omega, hid⟩]; rfl
    · rw [if_neg (fun h => hid h.2)]; simpa using hid
  · intro e he
    rw [List.head?_eq_getElem?] at he
    obtain ⟨h0, rfl⟩ := List.getElem?_eq_some_iff.1 he
    rw [startE_len] at h0
    rw [startE_get h0]
    split
    · rfl
    · rename_i hc
      have hid : idle q1.es[0] = false := by
        cases h : idle q1.es[0] with
        | true => exact absurd ⟨by omega, h⟩ hc
        | false => rfl
      obtain ⟨h3, h4⟩ := h2 q1.es[0] (by rw [List.head?_eq_getElem?, List.getElem?_eq_getElem h0])
      unfold idle at hid
      rw [h3, h4] at hid
      simpa using hid

theorem inv_q0 (w : Int) : QInv w q0 := ⟨⟨List.nodup_nil, (fun e he => by cases he), fun i hi => absurd hi (Nat.not_lt_zero _), List.Pairwise.nil, (fun e he => by cases he)⟩, fun i hi => absurd hi (Nat.not_lt_zero _), (fun e he => by cases he)⟩

theorem runE_inv {w : Int} (hw : 1 ≤ w) : ∀ (evs : List Ev) (i : Int) (q : QS), QInv w q → QInv w (runE w evs i q).1
  | [], _, _, h => h
  | x :: r, i, q, h => by
    rw [runE]
    split
    · exact inv_q0 w
    · rename_i h0
      have h0 : (stepE q x).2 = 0 := by simpa using h0
      exact runE_inv hw r _ _ (settleE_inv hw (stepE_winv h.toWInv (Prod.ext rfl h0)))

theorem runQ_inv (w : Int) (evs : List Ev) : QInv w (runQ w evs).1 := by
  unfold runQ
  split
  · exact inv_q0 w
  · split
    · exact inv_q0 w
    · exact runE_inv (by omega) evs 0 q0 (inv_q0 w)

end Go.RM

/-
  Package mergequeue: what has happened to the changes; later events; the reference.
-/
namespace Go.RM
set_option linter.unusedSimpArgs false
set_option linter.unusedVariables false
open Mq

/-! ### settle keeps all changes -/

theorem settleF_perm : ∀ (n : Nat) (q : QS), (allE (settleF n q)).Perm (allE q)
  | 0, q => List.Perm.refl _
  | n + 1, ⟨[], la, re⟩ => List.Perm.refl _
  | n + 1, ⟨e :: r, la, re⟩ => by
    simp only [settleF]
    split
    · refine (settleF_perm n _).trans ?_
      have hch : chs (r.map Mq.blank) = chs r := by unfold chs; rw [List.map_map]; rfl
      unfold allE
      simp only [hch]
      show (chs r ++ (la ++ (re ++ [e.ch]))).Perm (e.ch :: (chs r ++ (la ++ re)))
      rw [← List.append_assoc, ← List.append_assoc, ← List.append_assoc]
      exact List.perm_append_comm
    · split
      · refine (settleF_perm n _).trans ?_
        have hch : chs (r.map (dropE e.ch)) = chs r := by unfold chs; rw [List.map_map]; rfl
        unfold allE
        simp only [hch]
        show (chs r ++ (la ++ [e.ch] ++ re)).Perm (e.ch :: (chs r ++ (la ++ re)))
        have h1 : (la ++ [e.ch] ++ re).Perm (e.ch :: (la ++ re)) := by rw [List.append_assoc]; exact List.perm_middle
        exact (h1.append_left _).trans List.perm_middle
      · exact List.Perm.refl _
theorem chs_start (n : Nat) (l : List Ent) : chs (startE n l) = chs l := by
  refine List.ext_getElem (by simp [startE]) fun k a b => ?_
  simp only [List.getElem_map, startE, List.getElem_mapIdx]
  split <;> rfl
theorem settleE_perm (w : Int) (q : QS) : (allE (settleE w q)).Perm (allE q) := by
  have := settleF_perm q.es.length q
  unfold settleE
  unfold allE at this ⊢
  simp only [chs_start]
  exact this

/-! ### The history of the changes -/

namespace Mq
def adds (l : List Ev) : Nat := (l.filter fun x => x.k == 1).length
def rems (l : List Ev) : Nat := (l.filter fun x => x.k == 2).length
structure Hist (pre : List Ev) (q : QS) : Prop where
  n : (allE q).length + rems pre = adds pre
  there : ∀ i (h : i < pre.length), pre[i].k = 1 → pre[i].c ∈ allE q ∨ ∃ j, ∃ hj : j < pre.length, i ≤ j ∧ pre[j].k = 2 ∧ pre[j].c = pre[i].c
end Mq

theorem hist_perm {pre : List Ev} {q q' : QS} (h : Hist pre q) (hp : (allE q').Perm (allE q)) : Hist pre q' :=
  ⟨by rw [hp.length_eq]; exact h.n, fun i hi hk => (h.there i hi hk).imp (fun g => hp.mem_iff.2 g) id⟩

theorem hist_step {pre : List Ev} {q q' : QS} {x : Ev} (h : Hist pre q) (hs : stepE q x = (q', 0)) : Hist (pre ++ [x]) q' := by
  obtain ⟨hc, hcase⟩ := stepE_ok hs
  have hget : ∀ i (h : i < pre.length), (pre ++ [x])[i]'(by simp; omega) = pre[i] := fun i hi => List.getElem_append_left hi
  have hlast : (pre ++ [x])[pre.length]'(by simp) = x := by simp
  have ha : adds (pre ++ [x]) = adds pre + if x.k = 1 then 1 else 0 := by
    unfold adds; rw [List.filter_append, List.length_append]
    congr 1
    by_cases h : x.k = 1
    · simp [h]
    · simp [h]
  have hr : rems (pre ++ [x]) = rems pre + if x.k = 2 then 1 else 0 := by
    unfold rems; rw [List.filter_append, List.length_append]
    congr 1
    by_cases h : x.k = 2
    · simp [h]
    · simp [h]
  have old : ∀ i (hi : i < pre.length), pre[i].k = 1 → (pre[i].c ∈ allE q → pre[i].c ∈ allE q' ∨ (x.k = 2 ∧ x.c = pre[i].c)) →
      pre[i].c ∈ allE q' ∨ ∃ j, ∃ hj : j < (pre ++ [x]).length, i ≤ j ∧ (pre ++ [x])[j].k = 2 ∧ (pre ++ [x])[j].c = pre[i].c := fun i hi hk hg => by
    rcases h.there i hi hk with h1 | ⟨j, hj, h1, h2, h3⟩
    · rcases hg h1 with h2 | h2
      · exact .inl h2
      · exact .inr ⟨pre.length, by simp, by omega, by rw [hlast]; exact h2.1, by rw [hlast]; exact h2.2⟩
    · exact .inr ⟨j, by simp; omega, h1, by rw [hget j hj]; exact h2, by rw [hget j hj]; exact h3⟩
  have split : ∀ i, i < (pre ++ [x]).length → i < pre.length ∨ i = pre.length := fun i hi => by simp at hi; omega
  rcases hcase with ⟨hk, hadd⟩ | ⟨i0, hi0, _, hch, ⟨hk, rfl⟩ | ⟨hk, _, rfl⟩⟩
  · obtain ⟨h1, _, rfl⟩ := addE_ok hadd
    have hp := all_insert q (posE x.p q.es) x.c x.p
    refine ⟨?_, fun i hi hik => ?_⟩
    · rw [hp.length_eq, ha, hr, if_pos hk, if_neg (by omega), List.length_cons]; have := h.n; omega
    · rcases split i hi with h1 | h1
      · rw [hget i h1] at hik ⊢
        exact old i h1 hik fun hg => .inl (hp.mem_iff.2 (List.mem_cons_of_mem _ hg))
      · subst h1
        left
        rw [hlast]
        exact hp.mem_iff.2 (List.mem_cons_self ..)
  · have hall : allE { q with es := resetFrom i0 (q.es.eraseIdx i0) } = (chs q.es).eraseIdx i0 ++ (q.la ++ q.re) := by unfold allE; simp only [chs_reset, chs_erase]
    have hic : i0 < (chs q.es).length := by simpa using hi0
    have hcc : (chs q.es)[i0] = x.c := by simpa using hch
    refine ⟨?_, fun i hi hik => ?_⟩
    · rw [hall, ha, hr, if_pos hk, if_neg (by omega)]
      have hn := h.n
      unfold allE at hn
      rw [List.length_append] at hn ⊢
      rw [List.length_eraseIdx, if_pos hic]
      omega
    · rcases split i hi with h1 | h1
      · rw [hget i h1] at hik ⊢
        refine old i h1 hik fun hg => ?_
        rw [hall]
        unfold allE at hg
        rcases List.mem_append.1 hg with hg | hg
        · obtain ⟨k, hkk, hke⟩ := List.getElem_of_mem hg
          by_cases e : k = i0
          · subst e; exact .inr ⟨hk, by rw [← hcc, hke]⟩
          · left
            refine List.mem_append_left _ ?_
            rw [List.mem_eraseIdx_iff_getElem]
            exact ⟨k, hkk, e, hke⟩
        · exact .inl (List.mem_append_right _ hg)
      · subst h1
        rw [hlast] at hik; omega
  · have hall : allE { q with es := q.es.set i0 (resE q.es[i0] x.k) } = allE q := by
      unfold allE
      have hch : chs (q.es.set i0 (resE q.es[i0] x.k)) = chs q.es := by
        refine List.ext_getElem (by simp) fun j h1 h2 => ?_
        simp only [List.getElem_map, List.getElem_set]
        split
        · rename_i e; subst e; rfl
        · rfl
      simp only [hch]
    refine ⟨?_, fun i hi hik => ?_⟩
    · rw [hall, ha, hr, if_neg (by omega), if_neg (by omega)]; have := h.n; omega
    · rcases split i hi with h1 | h1
      · rw [hget i h1] at hik ⊢
        exact old i h1 hik fun hg => .inl (by rw [hall]; exact hg)
      · subst h1
        rw [hlast] at hik; omega

theorem runE_hist {w : Int} : ∀ (evs pre : List Ev) (i : Int) (q : QS), Hist pre q → (runE w evs i q).2.1 = 0 → Hist (pre ++ evs) (runE w evs i q).1
  | [], pre, _, q, h, _ => by rw [List.append_nil]; exact h
  | x :: r, pre, i, q, h, h0 => by
    rw [runE] at h0 ⊢
    split
    · rename_i hne; rw [if_pos hne] at h0; exact absurd h0 hne
    · rename_i hz
      rw [if_neg hz] at h0
      have hz' : (stepE q x).2 = 0 := by simpa using hz
      have := runE_hist r (pre ++ [x]) (i + 1) _ (hist_perm (hist_step h (Prod.ext rfl hz')) (settleE_perm w _)) h0
      rw [List.append_assoc] at this
      exact this

theorem runQ_hist {w : Int} {evs : List Ev} (h : (runQ w evs).2.1 = 0) : Hist evs (runQ w evs).1 := by
  unfold runQ at h ⊢
  split
  · rename_i hw; rw [if_pos hw] at h; exact absurd h (by decide)
  · rename_i hw
    rw [if_neg hw] at h
    split
    · rename_i hw; rw [if_pos hw] at h; exact absurd h (by decide)
    · rename_i h40
      rw [if_neg h40] at h
      have := runE_hist (w := w) evs [] 0 q0 ⟨rfl, fun i hi => absurd hi (Nat.not_lt_zero _)⟩ h
      rw [List.nil_append] at this
      exact this

theorem runQ_win {w : Int} {evs : List Ev} (h : (runQ w evs).2.1 = 0) : 1 ≤ w ∧ w ≤ 4 ∧ evs.length ≤ 40 ∧ runQ w evs = runE w evs 0 q0 := by
  unfold runQ at h
  split at h
  · exact absurd h (by decide)
  · split at h
    · exact absurd h (by decide)
    · rename_i h1 h2
      refine ⟨by omega, by omega, by omega, ?_⟩
      unfold runQ; rw [if_neg h1, if_neg h2]

/-! ### Later events -/

end Go.RM

/-
  Package mergequeue: changes that pass; the reference's queue is the program's.
-/
namespace Go.RM
set_option linter.unusedSimpArgs false
set_option linter.unusedVariables false
open Mq

/-! ### Changes that pass -/

/-! ### The reference -/

namespace Mq
def stT (e : Ent) : Int := if e.te then 1 else if e.pa then 2 else if e.fa then 3 else 0
def tri (e : Ent) : Tri := ⟨e.ch, e.pr, stT e⟩
def rel (q : QS) : RQ := ⟨q.es.map tri, q.la, q.re⟩
end Mq

theorem mk0_false (t : Tri) : mk0 false t = t := rfl
theorem map_mk0_tri (l : List Ent) : (l.map tri).map (mk0 true) = (l.map Mq.blank).map tri := by rw [List.map_map, List.map_map]; rfl
theorem map_mk0_false (l : List Tri) : l.map (mk0 false) = l := by
  have : mk0 false = id := by funext t; rfl
  rw [this, List.map_id]
theorem reset_cons (i : Nat) (e : Ent) (l : List Ent) : resetFrom (i + 1) (e :: l) = e :: resetFrom i l := by
  unfold resetFrom
  rw [List.mapIdx_cons, if_neg (by omega)]
  congr 1
  refine List.ext_getElem (by simp) fun k h1 h2 => ?_
  simp only [List.getElem_mapIdx]
  by_cases h : i ≤ k
  · rw [if_pos h, if_pos (by omega)]
  · rw [if_neg h, if_neg (by omega)]

theorem insT_true (c p : Int) (l : List Tri) : insT c p true l = l.map (mk0 true) := by
  induction l with
  | nil => rfl
  | cons a l ih => rw [insT]; simp [ih]

theorem insT_map (c p : Int) : ∀ l : List Ent, insT c p false (l.map tri) = (resetFrom (posE p l) (l.take (posE p l) ++ mk c p :: l.drop (posE p l))).map tri
  | [] => rfl
  | e :: r => by
    rw [List.map_cons, insT]
    by_cases h : e.pr < p
    · have hp : posE p (e :: r) = 0 := by unfold posE; rw [List.findIdx_cons]; simp [h]
      have hd : (tri e).p < p := h
      rw [hp, decide_eq_true hd]
      simp only [Bool.not_false, Bool.and_true, if_true, List.take_zero, List.nil_append, List.drop_zero, map_resetFrom, insT_true, List.map_cons]
      rw [map_mk0_tri]; rfl
    · have hp : posE p (e :: r) = posE p r + 1 := by unfold posE; rw [List.findIdx_cons]; simp [h]
      have hd : ¬ (tri e).p < p := h
      rw [hp, decide_eq_false hd, List.take_succ_cons, List.drop_succ_cons, List.cons_append, reset_cons, List.map_cons, ← insT_map c p r]
      rfl

theorem cutT_map (i : Nat) : ∀ (k : Nat) (l : List Ent), k ≤ i → cutT (i : Int) true k (l.map tri) = (resetFrom (i - k) (l.eraseIdx (i - k))).map tri
  | _, [], _ => by simp [cutT, resetFrom]
  | k, e :: r, h => by
    rw [List.map_cons, cutT]
    by_cases hk : k = i
    · subst hk
      rw [if_pos rfl, Nat.sub_self, List.eraseIdx_cons_zero, map_resetFrom, cutT_after _ _ _ _ (by omega), map_mk0_tri]
    · rw [if_neg (by omega)]
      have hik : i - k = (i - (k + 1)) + 1 := by omega
      rw [hik, List.eraseIdx_cons_succ, reset_cons, List.map_cons, cutT_map i (k + 1) r (by omega), decide_eq_false (by omega), Bool.false_and, mk0_false]

theorem setF_map : ∀ (n : Nat) (q : QS), (∀ e ∈ q.es, exc e) → setF n (rel q) = rel (settleF n q)
  | 0, q, _ => rfl
  | n + 1, ⟨[], la, re⟩, _ => rfl
  | n + 1, ⟨e :: r, la, re⟩, h => by
    obtain ⟨h1, h2, h3⟩ := h e (by simp)
    have hr : ∀ x ∈ r, exc x := fun x hx => h x (List.mem_cons_of_mem _ hx)
    simp only [rel, List.map_cons, setF, settleF, cutT_zero]
    have es : (tri e).s = stT e := rfl
    rw [es]
    by_cases hfa : e.fa = true
    · have hte : e.te = false := by cases h : e.te <;> simp [h, hfa] at h2 ⊢
      have hpa : e.pa = false := by cases h : e.pa <;> simp [h, hfa] at h3 ⊢
      have hst : stT e = 3 := by unfold stT; rw [hte, hpa, hfa]; rfl
      rw [hst, if_pos (by decide), if_neg (by decide), if_pos hfa, map_mk0_tri]
      exact setF_map n ⟨r.map Mq.blank, la, re ++ [e.ch]⟩ fun x hx => by
        obtain ⟨y, hy, rfl⟩ := List.mem_map.1 hx; exact exc_blank y
    · have hfa' : e.fa = false := by simpa using hfa
      by_cases hpa : e.pa = true
      · have hte : e.te = false := by cases h : e.te <;> simp [h, hpa] at h1 ⊢
        have hst : stT e = 2 := by unfold stT; rw [hte, hpa]; rfl
        rw [hst, if_pos (by decide), if_pos rfl, if_neg hfa, if_pos hpa, map_mk0_false]
        have : r.map tri = (r.map (dropE e.ch)).map tri := by rw [List.map_map]; rfl
        rw [this]
        exact setF_map n ⟨r.map (dropE e.ch), la ++ [e.ch], re⟩ fun x hx => by
          obtain ⟨y, hy, rfl⟩ := List.mem_map.1 hx; exact hr y hy
      · have hpa' : e.pa = false := by simpa using hpa
        have hst : ¬ stT e > 1 := by unfold stT; rw [hpa', hfa']; cases e.te <;> decide
        rw [if_neg hst, if_neg hfa, if_neg hpa]; rfl

theorem idle_st (e : Ent) : idle e = true ↔ stT e = 0 := by
  unfold idle stT
  cases e.te <;> cases e.pa <;> cases e.fa <;> simp

theorem startT_map (n : Nat) (l : List Ent) : startT n (l.map tri) = (startE n l).map tri := by
  refine List.ext_getElem (by simp [startT, startE]) fun k h1 h2 => ?_
  simp only [startT, startE, List.getElem_mapIdx, List.getElem_map]
  have es : (tri (l[k]'(by simpa [startE] using h2))).s = stT (l[k]'(by simpa [startE] using h2)) := rfl
  by_cases h : k < n ∧ idle (l[k]'(by simpa [startE] using h2)) = true
  · rw [if_pos ⟨h.1, by rw [es]; exact (idle_st _).1 h.2⟩, if_pos h]; rfl
  · rw [if_neg fun hh => h ⟨hh.1, (idle_st _).2 hh.2⟩, if_neg h]

theorem settledR_map (w : Int) (q : QS) (h : ∀ e ∈ q.es, exc e) : settledR w (rel q) = rel (settleE w q) := by
  unfold settledR settleE
  have hl : (rel q).t.length = q.es.length := by simp [rel]
  rw [hl, setF_map _ _ h]
  simp only [rel, List.length_map, startT_map]

theorem findT_map (c : Int) (l : List Ent) : findT c (l.map tri) = findE c l := by
  unfold findT findE fidx
  rw [List.findIdx?_map]; rfl

theorem stepR_map {w : Int} {q : QS} (h : ∀ e ∈ q.es, exc e) (x : Ev) : stepR w (rel q) x = if (stepE q x).2 = 0 then (rel (settleE w (stepE q x).1), 0) else (rel q, (stepE q x).2) := by
  by_cases g1 : x.k < 1 ∨ x.k > 4
  · unfold stepR stepE; rw [if_pos g1, if_pos g1]; rfl
  by_cases g2 : x.c < 1 ∨ x.c > 1000000000 ∨ x.p < 0 ∨ x.p > 3
  · unfold stepR stepE; rw [if_neg g1, if_pos g2, if_neg g1, if_pos g2]; rfl
  by_cases g3 : x.k ≠ 1 ∧ x.p ≠ 0
  · unfold stepR stepE; rw [if_neg g1, if_neg g2, if_pos (by omega), if_neg g1, if_neg g2, if_pos g3]; rfl
  by_cases g4 : x.k = 1
  · unfold stepR stepE
    rw [if_neg g1, if_neg g2, if_neg (by omega), if_pos g4, if_neg g1, if_neg g2, if_neg g3, if_pos g4]
    unfold addE
    have hf : findT x.c (rel q).t ≥ 0 ↔ x.c ∈ chs q.es := by
      show findT x.c (q.es.map tri) ≥ 0 ↔ _
      rw [findT_map]
      have := fidx_nonneg (fun e : Ent => e.ch == x.c) q.es
      rw [any_ch] at this
      unfold findE
      have h2 := congrArg (· = true) this
      simp only [decide_eq_true_eq, eq_iff_iff] at h2
      exact h2
    by_cases g5 : x.c ∈ chs q.es ∨ x.c ∈ q.la ∨ x.c ∈ q.re
    · have g5' : (q.es.any (fun e => e.ch == x.c) || decide (x.c ∈ q.la) || decide (x.c ∈ q.re)) = true := by
        rw [any_ch]; simp only [Bool.or_eq_true, decide_eq_true_eq]; rcases g5 with h | h | h
        · exact .inl (.inl h)
        · exact .inl (.inr h)
        · exact .inr h
      rw [if_pos (by rcases g5 with h | h | h; exact .inl (hf.2 h); exact .inr (.inl h); exact .inr (.inr h)), if_pos g5']
      rfl
    · have g5' : ¬ (q.es.any (fun e => e.ch == x.c) || decide (x.c ∈ q.la) || decide (x.c ∈ q.re)) = true := by
        rw [any_ch]; simp only [Bool.or_eq_true, decide_eq_true_eq]; intro h
        rcases h with (h | h) | h
        · exact g5 (.inl h)
        · exact g5 (.inr (.inl h))
        · exact g5 (.inr (.inr h))
      rw [if_neg (fun hh => g5 (by rcases hh with h | h | h; exact .inl (hf.1 h); exact .inr (.inl h); exact .inr (.inr h))), if_neg g5']
      have hl : (rel q).t.length = q.es.length := by simp [rel]
      rw [hl]
      by_cases g6 : 10 ≤ q.es.length
      · rw [if_pos g6, if_pos g6]; rfl
      · rw [if_neg g6, if_neg g6]
        simp only [if_true]
        have e1 : ({ rel q with t := insT x.c x.p false (rel q).t } : RQ) = rel { q with es := resetFrom (posE x.p q.es) (q.es.take (posE x.p q.es) ++ mk x.c x.p :: q.es.drop (posE x.p q.es)) } := by
          show (⟨insT x.c x.p false (q.es.map tri), q.la, q.re⟩ : RQ) = _
          rw [insT_map]; rfl
        rw [e1, settledR_map]
        refine reset_ex fun k hk hki => ?_
        have : (q.es.take (posE x.p q.es) ++ mk x.c x.p :: q.es.drop (posE x.p q.es))[k] ∈ q.es := by
          have hle : posE x.p q.es ≤ q.es.length := List.findIdx_le_length
          rw [List.getElem_append_left (by simp; omega), List.getElem_take]
          exact List.getElem_mem _
        exact h _ this
  · have hidx : (rel q).t.findIdx? (fun t => t.c == x.c) = q.es.findIdx? (fun e => e.ch == x.c) := by
      show (q.es.map tri).findIdx? _ = _
      rw [List.findIdx?_map]; rfl
    have hE : stepE q x = match q.es.findIdx? (fun e => e.ch == x.c) with
        | none => (q, 6)
        | some i => if x.k = 2 then ({ q with es := resetFrom i (q.es.eraseIdx i) }, 0)
          else match q.es[i]? with
            | some e => if e.te then ({ q with es := q.es.set i (resE e x.k) }, 0) else (q, 11)
            | none => (q, 6) := by
      unfold stepE; rw [if_neg g1, if_neg g2, if_neg g3, if_neg g4]; rfl
    have hR : stepR w (rel q) x = match q.es.findIdx? (fun e => e.ch == x.c) with
        | none => (rel q, 6)
        | some i =>
          if x.k = 2 then (settledR w { rel q with t := cutT i true 0 (rel q).t }, 0)
          else match (rel q).t[i]? with
            | some t => if t.s = 1 then (settledR w { rel q with t := (cutT (-1) false 0 (rel q).t).set i { t with s := if x.k = 4 then 3 else 2 } }, 0) else (rel q, 11)
            | none => (rel q, 6) := by
      unfold stepR; rw [if_neg g1, if_neg g2, if_neg (by omega), if_neg g4, hidx]; rfl
    cases hfi : q.es.findIdx? (fun e => e.ch == x.c) with
    | none => rw [hfi] at hE hR; dsimp only at hE hR; rw [hE, hR]; rfl
    | some i =>
      rw [hfi] at hE hR
      dsimp only at hE hR
      obtain ⟨hi, _⟩ := List.findIdx?_eq_some_iff_findIdx_eq.1 hfi
      by_cases g5 : x.k = 2
      · rw [if_pos g5] at hE hR
        rw [hE, hR]
        simp only [if_true]
        have e1 : ({ rel q with t := cutT i true 0 (rel q).t } : RQ) = rel { q with es := resetFrom i (q.es.eraseIdx i) } := by
          show (⟨cutT i true 0 (q.es.map tri), q.la, q.re⟩ : RQ) = _
          rw [cutT_map i 0 q.es (Nat.zero_le _)]; rfl
        rw [e1, settledR_map]
        exact reset_ex fun k hk hki => h _ (mem_erase (List.getElem_mem _))
      · rw [if_neg g5] at hE hR
        have ht : (rel q).t[i]? = some (tri q.es[i]) := by simp [rel, hi]
        rw [ht] at hR
        rw [List.getElem?_eq_getElem hi] at hE
        dsimp only at hE hR
        obtain ⟨x1, x2, x3⟩ := h q.es[i] (List.getElem_mem hi)
        have es : (tri q.es[i]).s = stT q.es[i] := rfl
        have hs : (tri q.es[i]).s = 1 ↔ q.es[i].te = true := by
          rw [es]; unfold stT
          cases q.es[i].te <;> cases q.es[i].pa <;> cases q.es[i].fa <;> simp
        by_cases g6 : q.es[i].te = true
        · rw [if_pos (hs.2 g6)] at hR
          rw [if_pos g6] at hE
          rw [hE, hR]
          simp only [if_true]
          have e1 : ({ rel q with t := (cutT (-1) false 0 (rel q).t).set i { tri q.es[i] with s := if x.k = 4 then 3 else 2 } } : RQ) = rel { q with es := q.es.set i (resE q.es[i] x.k) } := by
            rw [cutT_neg]
            show (⟨(q.es.map tri).set i _, q.la, q.re⟩ : RQ) = ⟨(q.es.set i _).map tri, q.la, q.re⟩
            rw [List.map_set]
            congr 2
            have hk : x.k = 3 ∨ x.k = 4 := by omega
            rcases hk with hk | hk <;> simp [hk, tri, stT, resE]
          rw [e1, settledR_map]
          intro e he
          rcases List.mem_or_eq_of_mem_set he with he | rfl
          · exact h e he
          · have hk : x.k = 3 ∨ x.k = 4 := by omega
            unfold exc resE; rcases hk with hk | hk <;> simp [hk]
        · rw [if_neg (fun hh => g6 (hs.1 hh))] at hR
          rw [if_neg g6] at hE
          rw [hE, hR]; rfl

theorem runRE_map {w : Int} (hw : 1 ≤ w) : ∀ (evs : List Ev) (i : Int) (q : QS), QInv w q → runRE w evs i (rel q) = (rel (runE w evs i q).1, (runE w evs i q).2)
  | [], _, _, _ => rfl
  | x :: r, i, q, h => by
    rw [runRE, runE, stepR_map h.ex]
    by_cases h0 : (stepE q x).2 = 0
    · rw [if_pos h0, if_neg (by simp), if_neg (by simp [h0])]
      exact runRE_map hw r _ _ (settleE_inv hw (stepE_winv h.toWInv (Prod.ext rfl h0)))
    · rw [if_neg h0, if_pos h0, if_pos h0]; rfl

theorem runR_map (w : Int) (evs : List Ev) : runR w evs = (rel (runQ w evs).1, (runQ w evs).2) := by
  unfold runR runQ
  by_cases h1 : w < 1 ∨ w > 4
  · rw [if_pos h1, if_pos h1]; rfl
  · rw [if_neg h1, if_neg h1]
    by_cases h2 : evs.length > 40
    · rw [if_pos h2, if_pos h2]; rfl
    · rw [if_neg h2, if_neg h2]
      exact runRE_map (by omega) evs 0 q0 (inv_q0 w)

theorem stateR_map {q : QS} (h : WInv q) : stateR (rel q) = q := by
  have hes : (stateR (rel q)).es = q.es := by
    refine List.ext_getElem (by simp [stateR, rel]) fun k h1 h2 => ?_
    simp only [stateR, rel, List.getElem_mapIdx, List.getElem_map]
    obtain ⟨x1, x2, x3⟩ := h.ex q.es[k] (List.getElem_mem h2)
    have haf := h.af k h2
    have hid := idle_st q.es[k]
    have htk : (((q.es.map tri).take k).map fun t => t.c) = chs (q.es.take k) := by
      rw [← List.map_take, List.map_map]; rfl
    unfold entT
    rw [htk]
    have es : (tri q.es[k]).s = stT q.es[k] := rfl
    rw [es]
    have hex : ∀ e e' : Ent, e.ch = e'.ch → e.pr = e'.pr → e.te = e'.te → e.pa = e'.pa → e.fa = e'.fa → e.af = e'.af → e = e' := fun e e' => by
      cases e; cases e'; rintro rfl rfl rfl rfl rfl rfl; rfl
    refine hex _ _ rfl rfl ?_ ?_ ?_ ?_
    · unfold stT; revert x1 x2 x3
      cases q.es[k].te <;> cases q.es[k].pa <;> cases q.es[k].fa <;> simp
    · unfold stT; revert x1 x2 x3
      cases q.es[k].te <;> cases q.es[k].pa <;> cases q.es[k].fa <;> simp
    · unfold stT; revert x1 x2 x3
      cases q.es[k].te <;> cases q.es[k].pa <;> cases q.es[k].fa <;> simp
    · rw [haf]
      by_cases hi : idle q.es[k] = true
      · rw [if_pos hi, if_neg (by simp [hid.1 hi])]
      · rw [if_neg hi, if_pos (fun hh => hi (hid.2 hh))]
  show (⟨(stateR (rel q)).es, q.la, q.re⟩ : QS) = q
  rw [hes]

end Go.RM

