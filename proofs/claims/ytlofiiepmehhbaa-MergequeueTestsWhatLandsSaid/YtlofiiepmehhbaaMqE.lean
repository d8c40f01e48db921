import Derived.Test.YtlofiiepmehhbaaMqL
import Derived.Test.YtlofiiepmehhbaaMqP
/-
  Package mergequeue: the laws return true.
-/
namespace Go.RM
set_option linter.unusedSimpArgs false
set_option linter.unusedVariables false
set_option maxRecDepth 4000
open Mq

variable {F : Nat → Option RFunc}

namespace Mq
def exA : List Ev := [⟨1, 5, 0⟩, ⟨1, 6, 0⟩, ⟨3, 6, 0⟩]
def exB : List Ev := [⟨1, 5, 0⟩, ⟨1, 6, 0⟩, ⟨3, 6, 0⟩, ⟨3, 5, 0⟩]
end Mq
theorem exA_ok : (runQ 2 exA).2.1 = 0 ∧ (runQ 2 exA).1.la = [] ∧ (runQ 2 exA).1.es.length = 2 := by decide +kernel
theorem exB_ok : (runQ 2 exB).2.1 = 0 ∧ (runQ 2 exB).1.la = [5, 6] := by decide +kernel
theorem exO_ok : (outE 2 exB 6).1 = 1 ∧ (outE 2 exB 6).2.1 = 1 ∧ (outE 2 exB 6).2.2.1 = 0 := by decide +kernel

abbrev MExC (F : Nat → Option RFunc) (f : Nat) : Prop := ∀ {fl H Q}, fl ≤ H.length → (∀ H', Keep H.length H H' → Q (.bool true) H') → Ret F fl f [] H Q
theorem mex_c {f n1 n2 n3 : Nat} (hF : F f = some (rf_LqueueExample n1 n2 n3)) (h1 : RunC F n1) (h2 : OutcomeC F n2) (h3 : FEqualIntsC F n3) : MExC F f := fun {fl H Q} hfl hq => by
  refine v_LqueueExample hF ?_
  intro b0 H1 h0
  have harr : Arr tEv H1 (.slice b0 0 4 (some 4)) exB := NewB.arr (T := tEv) h0 (exB.map fun x : Ev => [i64 x.k, i64 x.c, i64 x.p]) rfl ⟨rfl, rfl, rfl, rfl, trivial⟩ rfl
  obtain ⟨s2, g1, g2⟩ := harr.upto (n := 3) (by decide)
  have g2' : Arr tEv H1 s2 exA := g2
  obtain ⟨a1, a2, a3⟩ := exA_ok
  obtain ⟨b1, b2⟩ := exB_ok
  obtain ⟨o1, o2, o3⟩ := exO_ok
  refine ⟨s2, g1, h1 g2' (by have := h0.keep.len; omega) fun ve vl vr H8 k8 he hl hr => ⟨ve, vl, vr, _, _, rfl, ?_⟩⟩
  intro H10 d10 H11 d11
  have k11 := (h0.keep.call k8).call (d10.keep.call d11.keep)
  have k111 := k8.call (d10.keep.call d11.keep)
  refine ⟨he.scal, hl.scal, hr.scal, h1 (harr.keep k111) (by have := k11.len; omega) fun we wl wr H20 k20 he2 hl2 hr2 => ⟨we, wl, wr, _, _, rfl, ?_⟩⟩
  intro H22 d22 H23 d23
  have k23 := k20.call (d22.keep.call d23.keep)
  have k123 := k111.call k23
  refine ⟨he2.scal, hl2.scal, hr2.scal, h2 (harr.keep k123) (by have := (h0.keep.call k123).len; omega) fun H31 k31 => ⟨_, _, _, _, rfl, ?_⟩⟩
  intro H33 d33
  have k33 := (h0.keep.call k123).call (k31.call d33.keep)
  refine ⟨_, hl.len, _, he.len, fun hc => ?_, fun hc => ?_⟩
  · intro b36 H37 h36
    have harr2 : Ints H37 (.slice b36 0 2 (some 2)) [5, 6] := h36.ints [5, 6] rfl rfl
    have hl2' := (hl2.keep ((d22.keep.call d23.keep).call (k31.call d33.keep))).keep h36.keep
    refine h3 hl2' harr2 ⟨_, rfl, ?_⟩
    rw [b2, o1, o2]
    exact hq H37 (k33.call h36.keep)
  · exact absurd (by rw [a1, b1, o3, a2, a3]; decide) hc

/-- Where there was no fault, all lists together are short. -/
theorem runQ_short {w : Int} {evs : List Ev} : (runQ w evs).1.es.length + ((runQ w evs).1.la.length + (runQ w evs).1.re.length) ≤ 40 := by
  by_cases h : (runQ w evs).2.1 = 0
  · have h1 := (runQ_hist h).n
    obtain ⟨_, _, h2, _⟩ := runQ_win h
    have h3 : adds evs ≤ evs.length := List.length_filter_le _ _
    unfold allE at h1
    simp only [List.length_append, List.length_map] at h1
    omega
  · have : (runQ w evs).1 = q0 := by
      unfold runQ at h ⊢
      split
      · rfl
      · rename_i h1
        rw [if_neg h1] at h
        split
        · rfl
        · rename_i h2
          rw [if_neg h2] at h
          have key : ∀ (l : List Ev) (i : Int) (q : QS), (runE w l i q).2.1 ≠ 0 → (runE w l i q).1 = q0 := by
            intro l
            induction l with
            | nil => intro i q h; exact absurd rfl h
            | cons x r ih =>
              intro i q h
              rw [runE] at h ⊢
              split
              · rfl
              · rename_i h3; rw [if_neg h3] at h; exact ih _ _ h
          exact key _ _ _ h
    rw [this]; decide

/-! ### MainLineOnlyGrows -/

/-! ### TestsWhatLands -/

theorem lTests_c {f n1 n2 n3 : Nat} (hF : F f = some (rf_LMergequeueTestsWhatLands n1 n2 n3)) (h1 : RunC F n1) (h2 : MExC F n2) (h3 : FEqualIntsC F n3) {fl : Nat} {H : Heap} {w : Int} {v : AV} {evs : List Ev} (hv : Arr tEv H v evs) (hfl : fl ≤ H.length) :
    Ret F fl f [i64 w, v] H tru := by
  refine v_LMergequeueTestsWhatLands hF _ _ ?_
  refine h1 hv hfl fun ve vl vr H7 k7 he hl hr => ⟨ve, vl, vr, _, _, rfl, ?_⟩
  intro H9 d9 H10 d10
  have k10 := d9.keep.call d10.keep
  refine ⟨he.scal, hl.scal, hr.scal, h2 (by have := (k7.call k10).len; omega) fun H15 k15 => ⟨_, rfl, fun h => absurd rfl h, fun _ => ?_⟩⟩
  have he15 := (he.keep k10).keep k15
  have hinv := runQ_inv w evs
  have hshort := runQ_short (w := w) (evs := evs)
  have hn15 : fl ≤ H15.length := by have := ((k7.call k10).call k15).len; omega
  generalize (runQ w evs).1 = q at *
  generalize (runQ w evs).2.1 = code at *
  have hes : q.es.length ≤ 40 := by omega
  refine ⟨fun m i before H' => ∃ j : Nat, i = j ∧ j + m = q.es.length ∧ Keep H15.length H15 H' ∧ OI H15.length H' before (chs (q.es.take j)), q.es.length, ⟨0, rfl, by omega, Keep.refl _, Own.nil⟩, ?_⟩
  rintro m _ before H32 ⟨j, rfl, hm, hk, hb⟩
  have he32 := he15.keep hk
  refine ⟨_, he32.len, fun hc => ?_, fun _ => rfl⟩
  have hj : j < q.es.length := by omega
  obtain ⟨cs, ⟨wv, rfl, hwv⟩, hg, _⟩ := he32.get hj
  refine ⟨_, _, _, _, _, _, hg, ?_⟩
  intro H41 d41
  have k41 := hk.call d41.keep
  have hwv41 := hwv.keep d41.keep
  have he41 := he32.keep d41.keep
  obtain ⟨x1, x2, x3⟩ := hinv.ex q.es[j] (List.getElem_mem hj)
  have haf := hinv.af j hj
  have hst := hinv.st j hj
  have hhd : j = 0 → q.es[j].te = true := fun h0 => by
    subst h0
    exact hinv.hd _ (by rw [List.head?_eq_getElem?, List.getElem?_eq_getElem hj])
  -- how many states
  have hsum : ∀ s : Int, s = (if q.es[j].te then 1 else 0) + (if q.es[j].pa then 1 else 0) + (if q.es[j].fa then 1 else 0) → (s = 0 ∧ idle q.es[j] = true) ∨ (s = 1 ∧ idle q.es[j] = false) := fun s hs => by
    unfold idle
    revert hs x1 x2 x3
    cases q.es[j].te <;> cases q.es[j].pa <;> cases q.es[j].fa <;> simp
  -- the end of a round
  have grow : ∀ H2, Keep H41.length H41 H2 → ∀ (b63 : Nat) (H64 : Heap), NewB H2 1 [i64 q.es[j].ch] b63 H64 → ∃ (a65 : AV) (H66 : Heap), appA fl true 1 8 H64 before (.slice b63 0 1 (some 1)) = some (a65, H66) ∧ ∃ m67 : Nat, m67 < m ∧ ∃ j' : Nat, IntKind.wrap .i64 ((j : Int) + 1) = j' ∧ j' + m67 = q.es.length ∧ Keep H15.length H15 H66 ∧ OI H15.length H66 a65 (chs (q.es.take j')) := fun H2 k2 b63 H64 h63 => by
    have hb2 := (hb.keep d41.keep).keep k2
    obtain ⟨a, H66, c1, c2, c3, c4, c5⟩ := own_push (fl := fl) hb2 (k41.call k2).len h63 hn15 (by simp; omega)
    refine ⟨a, H66, c1, m - 1, by omega, j + 1, wsucc hj (by omega), by omega, (k41.call k2).tr (keep_push hb2 (k41.call k2).len c3 c4), ?_⟩
    have : chs (q.es.take (j + 1)) = chs (q.es.take j) ++ [q.es[j].ch] := by unfold chs; rw [List.take_succ_eq_append_getElem hj, List.map_append]; rfl
    rw [this]; exact c2
  have prio : ∀ H2, Keep H41.length H41 H2 → ((j : Int) > 0 → ∃ (e56 : Int), getA H2 6 none ve (IntKind.wrap .i64 ((j : Int) - 1)) 1 = some (.int .i64 e56) ∧ ((e56 < q.es[j].pr) → tru (.bool false) H2) ∧ (¬(e56 < q.es[j].pr) → ∀ (b58 : Nat) (H59 : Heap), NewB H2 1 [i64 q.es[j].ch] b58 H59 → ∃ (a60 : AV) (H61 : Heap), appA fl true 1 8 H59 before (.slice b58 0 1 (some 1)) = some (a60, H61) ∧ ∃ m62 : Nat, m62 < m ∧ ∃ j' : Nat, IntKind.wrap .i64 ((j : Int) + 1) = j' ∧ j' + m62 = q.es.length ∧ Keep H15.length H15 H61 ∧ OI H15.length H61 a60 (chs (q.es.take j')))) := fun H2 k2 hpos => by
    have hj0 : 0 < j := by omega
    rw [wpred hj0 (by omega)]
    obtain ⟨cs', ⟨wv', rfl, _⟩, _, hcell⟩ := (he41.keep k2).get (i := j - 1) (by omega)
    refine ⟨_, hcell 1 _ rfl, fun hlt => ?_, fun _ => grow H2 k2⟩
    have h5 := List.pairwise_iff_getElem.1 hinv.so (j - 1) j (by omega) hj (by omega)
    have hlt' : q.es[j - 1].pr < q.es[j].pr := hlt
    omega
  have after : ∀ H2, Keep H41.length H41 H2 → Ints H2 wv q.es[j].af := fun H2 k2 => hwv41.keep k2
  have hbI : Ints H41 before (chs (q.es.take j)) := (hb.keep d41.keep).ints
  refine ⟨hwv.scal, fun s => s = if q.es[j].te then 1 else 0, ⟨fun h => by rw [if_pos h]; rfl, fun h => by rw [if_neg h]⟩, ?_⟩
  rintro s1 hs1
  refine ⟨fun s => s = s1 + if q.es[j].pa then 1 else 0, ⟨fun h => by rw [if_pos h, hs1]; split <;> rfl, fun h => by rw [if_neg h]; omega⟩, ?_⟩
  rintro s2 hs2
  have hb2 : 0 ≤ s2 ∧ s2 ≤ 2 := by rw [hs2, hs1]; constructor <;> split <;> split <;> omega
  refine ⟨fun s => s = s2 + if q.es[j].fa then 1 else 0, ⟨fun h => by rw [if_pos h, wrap64 (by omega) (by omega)], fun h => by rw [if_neg h]; omega⟩, ?_⟩
  rintro s3 hs3
  have hcase := hsum s3 (by rw [hs3, hs2, hs1])
  refine ⟨fun hbad => ?_, fun _ => ⟨fun h0 => ?_, fun h0 => ?_⟩⟩
  · exfalso
    rcases hbad with (h | ⟨h4, h5⟩) | ⟨h4, h5⟩
    · rcases hcase with h | h <;> omega
    · rcases hcase with h6 | h6
      · have := hst h4; rw [h6.2] at this; cases this
      · omega
    · exact h5 (hhd (by omega))
  · have hid : idle q.es[j] = true := by
      rcases hcase with h | h
      · exact h.2
      · omega
    rw [if_pos hid] at haf
    have hlen : lenA wv = some 0 := by have := hwv.len; rw [haf] at this; exact this
    refine ⟨0, hlen, fun h => absurd h (by decide), fun _ => ⟨fun h1 => by omega, fun _ => ⟨prio H41 (Keep.refl _), fun _ => grow H41 (Keep.refl _)⟩⟩⟩
  · have hid : idle q.es[j] = false := by
      rcases hcase with h | h
      · omega
      · exact h.2
    rw [if_neg (by simp [hid])] at haf
    refine ⟨fun _ => h3 (after H41 (Keep.refl _)) hbI ⟨_, rfl, fun hne => absurd (by simp [haf]) hne, fun _ => ⟨prio H41 (Keep.refl _), fun _ => grow H41 (Keep.refl _)⟩⟩, fun h1 => ?_⟩
    rcases hcase with h | h <;> omega

end Go.RM

/-
  Package mergequeue: the other laws.
-/
namespace Go.RM
set_option linter.unusedSimpArgs false
set_option linter.unusedVariables false
set_option maxRecDepth 4000
open Mq

variable {F : Nat → Option RFunc}

abbrev evC (x : Ev) : List AV := [i64 x.k, i64 x.c, i64 x.p]
theorem All2.evs {H : Heap} : ∀ l : List Ev, All2 (tEv.rel H) (l.map evC) l
  | [] => trivial
  | _ :: l => ⟨rfl, All2.evs l⟩
/-! ### GoodChangesLandInOrder -/

end Go.RM

/-
  Package mergequeue: nothing is lost; the functions match their specification.
-/
namespace Go.RM
set_option linter.unusedSimpArgs false
set_option linter.unusedVariables false
set_option maxRecDepth 4000
open Mq

variable {F : Nat → Option RFunc}

/-! ### FunctionsMatchSpec -/

end Go.RM

/-
  The end of a law's run.
-/
namespace Go.RM
end Go.RM

