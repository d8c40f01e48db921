import Derived.Test.YtlofiiepmehhbaaMqR2
import Derived.Test.YtlofiiepmehhbaaMqL
/-
  A law's core: from what it returns.
-/
namespace Go.RM

abbrev tru : AV → Heap → Prop := fun v _ => v = .bool true

theorem core_of {F : Nat → Option RFunc} {fl f : Nat} {args : List AV} {H : Heap} (h : Ret F fl f args H tru) : ∃ n H', rcall F n fl f args H = some (.bool true, H') := by
  obtain ⟨n, v, H', h1, rfl⟩ := h
  exact ⟨n, H', h1⟩

theorem wfvs_cons {Pn : Nat → Prop} {H : Heap} {tc : TC} {tcs : List TC} {avs : List AV} (h : WFvs Pn H (tc :: tcs) avs) : ∃ v r, avs = v :: r ∧ WFv Pn H tc v ∧ WFvs Pn H tcs r := by
  cases avs with
  | nil => exact h.elim
  | cons v r => exact ⟨v, r, rfl, h.1, h.2⟩
theorem wfvs_nil {Pn : Nat → Prop} {H : Heap} {avs : List AV} (h : WFvs Pn H [] avs) : avs = [] := by
  cases avs with
  | nil => rfl
  | cons v r => exact h.elim

end Go.RM

/-
  Package mergequeue: the laws return true.
-/
namespace Go.RM
set_option linter.unusedSimpArgs false
set_option linter.unusedVariables false
set_option maxRecDepth 4000
open Mq

variable {F : Nat → Option RFunc}

namespace Mq
def exA : List Ev := [⟨1, 5, 0⟩, ⟨1, 6, 0⟩, ⟨3, 6, 0⟩]
def exB : List Ev := [⟨1, 5, 0⟩, ⟨1, 6, 0⟩, ⟨3, 6, 0⟩, ⟨3, 5, 0⟩]
end Mq
theorem exA_ok : (runQ 2 exA).2.1 = 0 ∧ (runQ 2 exA).1.la = [] ∧ (runQ 2 exA).1.es.length = 2 := by decide +kernel
theorem exB_ok : (runQ 2 exB).2.1 = 0 ∧ (runQ 2 exB).1.la = [5, 6] := by decide +kernel
theorem exO_ok : (outE 2 exB 6).1 = 1 ∧ (outE 2 exB 6).2.1 = 1 ∧ (outE 2 exB 6).2.2.1 = 0 := by decide +kernel

abbrev MExC (F : Nat → Option RFunc) (f : Nat) : Prop := ∀ {fl H Q}, fl ≤ H.length → (∀ H', Keep H.length H H' → Q (.bool true) H') → Ret F fl f [] H Q
theorem mex_c {f n1 n2 n3 : Nat} (hF : F f = some (rf_LqueueExample n1 n2 n3)) (h1 : RunC F n1) (h2 : OutcomeC F n2) (h3 : FEqualIntsC F n3) : MExC F f := fun {fl H Q} hfl hq => by
  refine v_LqueueExample hF ?_
  intro b0 H1 h0
  have harr : Arr tEv H1 (.slice b0 0 4 (some 4)) exB := NewB.arr (T := tEv) h0 (exB.map fun x : Ev => [i64 x.k, i64 x.c, i64 x.p]) rfl ⟨rfl, rfl, rfl, rfl, trivial⟩ rfl
  obtain ⟨s2, g1, g2⟩ := harr.upto (n := 3) (by decide)
  have g2' : Arr tEv H1 s2 exA := g2
  obtain ⟨a1, a2, a3⟩ := exA_ok
  obtain ⟨b1, b2⟩ := exB_ok
  obtain ⟨o1, o2, o3⟩ := exO_ok
  refine ⟨s2, g1, h1 g2' (by have := h0.keep.len; omega) fun ve vl vr H8 k8 he hl hr => ⟨ve, vl, vr, _, _, rfl, ?_⟩⟩
  intro H10 d10 H11 d11
  have k11 := (h0.keep.call k8).call (d10.keep.call d11.keep)
  have k111 := k8.call (d10.keep.call d11.keep)
  refine ⟨he.scal, hl.scal, hr.scal, h1 (harr.keep k111) (by have := k11.len; omega) fun we wl wr H20 k20 he2 hl2 hr2 => ⟨we, wl, wr, _, _, rfl, ?_⟩⟩
  intro H22 d22 H23 d23
  have k23 := k20.call (d22.keep.call d23.keep)
  have k123 := k111.call k23
  refine ⟨he2.scal, hl2.scal, hr2.scal, h2 (harr.keep k123) (by have := (h0.keep.call k123).len; omega) fun H31 k31 => ⟨_, _, _, _, rfl, ?_⟩⟩
  intro H33 d33
  have k33 := (h0.keep.call k123).call (k31.call d33.keep)
  refine ⟨_, hl.len, _, he.len, fun hc => ?_, fun hc => ?_⟩
  · intro b36 H37 h36
    have harr2 : Ints H37 (.slice b36 0 2 (some 2)) [5, 6] := h36.ints [5, 6] rfl rfl
    have hl2' := (hl2.keep ((d22.keep.call d23.keep).call (k31.call d33.keep))).keep h36.keep
    refine h3 hl2' harr2 ⟨_, rfl, ?_⟩
    rw [b2, o1, o2]
    exact hq H37 (k33.call h36.keep)
  · exact absurd (by rw [a1, b1, o3, a2, a3]; decide) hc

/-- Where there was no fault, all lists together are short. -/
theorem runQ_short {w : Int} {evs : List Ev} : (runQ w evs).1.es.length + ((runQ w evs).1.la.length + (runQ w evs).1.re.length) ≤ 40 := by
  by_cases h : (runQ w evs).2.1 = 0
  · have h1 := (runQ_hist h).n
    obtain ⟨_, _, h2, _⟩ := runQ_win h
    have h3 : adds evs ≤ evs.length := List.length_filter_le _ _
    unfold allE at h1
    simp only [List.length_append, List.length_map] at h1
    omega
  · have : (runQ w evs).1 = q0 := by
      unfold runQ at h ⊢
      split
      · rfl
      · rename_i h1
        rw [if_neg h1] at h
        split
        · rfl
        · rename_i h2
          rw [if_neg h2] at h
          have key : ∀ (l : List Ev) (i : Int) (q : QS), (runE w l i q).2.1 ≠ 0 → (runE w l i q).1 = q0 := by
            intro l
            induction l with
            | nil => intro i q h; exact absurd rfl h
            | cons x r ih =>
              intro i q h
              rw [runE] at h ⊢
              split
              · rfl
              · rename_i h3; rw [if_neg h3] at h; exact ih _ _ h
          exact key _ _ _ h
    rw [this]; decide

/-! ### MainLineOnlyGrows -/

/-! ### TestsWhatLands -/

end Go.RM

/-
  Package mergequeue: the other laws.
-/
namespace Go.RM
set_option linter.unusedSimpArgs false
set_option linter.unusedVariables false
set_option maxRecDepth 4000
open Mq

variable {F : Nat → Option RFunc}

abbrev evC (x : Ev) : List AV := [i64 x.k, i64 x.c, i64 x.p]
theorem All2.evs {H : Heap} : ∀ l : List Ev, All2 (tEv.rel H) (l.map evC) l
  | [] => trivial
  | _ :: l => ⟨rfl, All2.evs l⟩
/-! ### GoodChangesLandInOrder -/

end Go.RM

/-
  Package mergequeue: nothing is lost; the functions match their specification.
-/
namespace Go.RM
set_option linter.unusedSimpArgs false
set_option linter.unusedVariables false
set_option maxRecDepth 4000
open Mq

variable {F : Nat → Option RFunc}

theorem adds_succ {l : List Ev} {j : Nat} (hj : j < l.length) : adds (l.take (j + 1)) = adds (l.take j) + if l[j].k = 1 then 1 else 0 := by
  unfold adds
  rw [List.take_succ_eq_append_getElem hj, List.filter_append, List.length_append]
  congr 1
  by_cases h : l[j].k = 1
  · simp [h]
  · simp [h]
theorem rems_succ {l : List Ev} {j : Nat} (hj : j < l.length) : rems (l.take (j + 1)) = rems (l.take j) + if l[j].k = 2 then 1 else 0 := by
  unfold rems
  rw [List.take_succ_eq_append_getElem hj, List.filter_append, List.length_append]
  congr 1
  by_cases h : l[j].k = 2
  · simp [h]
  · simp [h]

/-- A change is removed in events i to k. -/
def gone (l : List Ev) (c : Int) (i k : Nat) : Bool := ((l.take k).drop i).any fun x => decide (x.k = 2) && decide (x.c = c)
theorem gone_self (l : List Ev) (c : Int) (i : Nat) : gone l c i i = false := by
  unfold gone; rw [List.drop_eq_nil_of_le (by simp; omega)]; rfl
theorem gone_succ {l : List Ev} {c : Int} {i k : Nat} (hik : i ≤ k) (hk : k < l.length) : gone l c i (k + 1) = (gone l c i k || (decide (l[k].k = 2) && decide (l[k].c = c))) := by
  unfold gone
  rw [List.take_succ_eq_append_getElem hk, List.drop_append_of_le_length (by simp; omega), List.any_append]
  simp
theorem gone_iff {l : List Ev} {c : Int} {i : Nat} : gone l c i l.length = true ↔ ∃ j, ∃ hj : j < l.length, i ≤ j ∧ l[j].k = 2 ∧ l[j].c = c := by
  unfold gone
  rw [List.take_length, List.any_eq_true]
  constructor
  · rintro ⟨x, hx, h⟩
    obtain ⟨k, hk, rfl⟩ := List.getElem_of_mem hx
    rw [List.length_drop] at hk
    rw [List.getElem_drop] at h
    simp only [Bool.and_eq_true, decide_eq_true_eq] at h
    exact ⟨i + k, by omega, by omega, h.1, h.2⟩
  · rintro ⟨j, hj, h1, h2, h3⟩
    refine ⟨l[j], ?_, by simp [h2, h3]⟩
    rw [List.mem_drop_iff_getElem]
    exact ⟨j - i, by omega, by congr 1; omega⟩

theorem nodup_take {l : List Int} (h : l.Nodup) {i : Nat} (hi : i < l.length) : l[i] ∉ l.take i := by
  intro hm
  obtain ⟨k, hk, he⟩ := List.mem_take_iff_getElem.1 hm
  have := (List.pairwise_iff_getElem.1 h) k i (by omega) hi (by omega)
  exact this he

theorem lLost_c {f n1 n2 n3 : Nat} (hF : F f = some (rf_LMergequeueNothingIsLost n1 n2 n3)) (h1 : RunC F n1) (h2 : MExC F n2) (h3 : FHasC F n3) {fl : Nat} {H : Heap} {w : Int} {v : AV} {evs : List Ev} (hv : Arr tEv H v evs) (hfl : fl ≤ H.length) :
    Ret F fl f [i64 w, v] H tru := by
  refine v_LMergequeueNothingIsLost hF _ _ ?_
  refine h1 hv hfl fun ve vl vr H7 k7 he hl hr => ⟨ve, vl, vr, _, _, rfl, ?_⟩
  intro H9 d9 H10 d10
  have k10 := d9.keep.call d10.keep
  refine ⟨he.scal, hl.scal, hr.scal, h2 (by have := (k7.call k10).len; omega) fun H15 k15 => ⟨_, rfl, fun h => absurd rfl h, fun _ => ⟨fun _ => rfl, fun hc => ?_⟩⟩⟩
  have hc : (runQ w evs).2.1 = 0 := by simpa using hc
  obtain ⟨w1, w2, w3, _⟩ := runQ_win hc
  have hshort := runQ_short (w := w) (evs := evs)
  have hhist := runQ_hist hc
  have hinv := runQ_inv w evs
  have he15 := (he.keep k10).keep k15
  have hl15 := (hl.keep k10).keep k15
  have hr15 := (hr.keep k10).keep k15
  have hv15 := ((hv.keep k7).keep k10).keep k15
  have hn15 : fl ≤ H15.length := by have := ((k7.call k10).call k15).len; omega
  generalize (runQ w evs).1 = q at *
  have ac0 : Acc H15 tInt H15 .empty [] := Acc.nil
  obtain ⟨a17, H18, a1, a2, a3, _⟩ := ac0.appendP (free := false) (bytes := 8) tInt.plain hl15 (Keep.refl _) hn15 (by simp; omega) (by decide)
  obtain ⟨a19, H20, b1, b2, b3, _⟩ := a2.appendP (free := true) (bytes := 8) tInt.plain (hr15.keep a3) a3 hn15 (by simp; omega) (by decide)
  rw [List.nil_append] at b2
  refine ⟨a17, H18, a1, a19, H20, b1, ?_⟩
  refine ⟨fun m i all H' => ∃ j : Nat, i = j ∧ j + m = q.es.length ∧ Keep H15.length H15 H' ∧ Acc H15 tInt H' all (q.la ++ q.re ++ chs (q.es.take j)), q.es.length, ⟨0, rfl, by omega, b3, by simpa using b2⟩, ?_⟩
  rintro m _ all H27 ⟨j, rfl, hm, hk, hall⟩
  have he27 := he15.keep hk
  refine ⟨_, he27.len, fun hlt => ?_, fun hge => ?_⟩
  · have hj : j < q.es.length := by omega
    obtain ⟨cs, ⟨wv, rfl, _⟩, _, hcell⟩ := he27.get hj
    refine ⟨_, hcell 0 _ rfl, fun b31 H32 h32 => ?_⟩
    obtain ⟨a33, H34, c1, c2, c3, _⟩ := hall.push (a := q.es[j].ch) (free := true) (bytes := 8) rfl h32 hk hn15 (by simp; omega) (by decide)
    refine ⟨a33, H34, c1, m - 1, by omega, j + 1, wsucc hj (by omega), by omega, c3, ?_⟩
    have : chs (q.es.take (j + 1)) = chs (q.es.take j) ++ [q.es[j].ch] := by unfold chs; rw [List.take_succ_eq_append_getElem hj, List.map_append]; rfl
    rw [this, ← List.append_assoc]; exact c2
  have hj : j = q.es.length := by omega
  subst hj
  rw [List.take_length] at hall
  have hperm : (q.la ++ q.re ++ chs q.es).Perm (allE q) := List.perm_append_comm
  have hnd : (q.la ++ q.re ++ chs q.es).Nodup := hperm.nodup_iff.2 hinv.nd
  have hmem : ∀ c, c ∈ q.la ++ q.re ++ chs q.es ↔ c ∈ allE q := fun c => hperm.mem_iff
  have hlen := hperm.length_eq
  have hn := hhist.n
  have hA : Ints H27 all (q.la ++ q.re ++ chs q.es) := hall.arrP tInt.plain
  have hLle : (q.la ++ q.re ++ chs q.es).length ≤ 40 := by simp; omega
  generalize q.la ++ q.re ++ chs q.es = L at *
  have hv27 := hv15.keep hk
  have hadd : adds evs ≤ evs.length := List.length_filter_le _ _
  refine ⟨fun m i H' => ∃ j : Nat, i = j ∧ j + m = L.length ∧ H27 = H', L.length, ⟨0, rfl, by omega, rfl⟩, ?_⟩
  rintro m _ _ ⟨j, rfl, hm, rfl⟩
  refine ⟨_, hA.len, fun hlt => ?_, fun hge => ⟨_, hA.len, ?_⟩⟩
  · have hj : j < L.length := by omega
    obtain ⟨s45, t1, t2⟩ := hA.upto (n := j) (by omega)
    refine ⟨s45, t1, _, hA.int hj, h3 t2 ⟨_, rfl, fun h => ?_, fun _ => ⟨m - 1, by omega, j + 1, wsucc hj (by omega), by omega, rfl⟩⟩⟩
    exact absurd (by simpa using h) (nodup_take hnd hj)
  -- the balance
  have rle : ∀ j, rems (evs.take j) ≤ 40 := fun j => Nat.le_trans (List.length_filter_le _ _) (by simp; omega)
  have ale : ∀ j, adds (evs.take j) ≤ 40 := fun j => Nat.le_trans (List.length_filter_le _ _) (by simp; omega)
  refine ⟨fun m i bal H' => ∃ j : Nat, i = j ∧ j + m = evs.length ∧ H27 = H' ∧ bal = (L.length : Int) + rems (evs.take j) - adds (evs.take j), evs.length, ⟨0, rfl, by omega, rfl, by simp [rems, adds]⟩, ?_⟩
  rintro m _ bal _ ⟨j, rfl, hm, rfl, hbal⟩
  refine ⟨_, hv27.len, fun hlt => ?_, fun hge => ?_⟩
  · have hj : j < evs.length := by omega
    have hr0 := rle j
    have ha0 := ale j
    have rs := rems_succ hj
    have as := adds_succ hj
    have cell : ∀ (k : Nat) (hk : k < evs.length) o x, (evC evs[k])[o]? = some x → getA H27 3 none v (k : Int) o = some x := fun k hk o x hx => by
      obtain ⟨cs, hcs, _, hcell⟩ := hv27.get hk
      have hcs' : cs = evC evs[k] := hcs
      subst hcs'
      exact hcell o x hx
    refine ⟨fun b => b = bal + if evs[j].k = 2 then 1 else 0, ⟨_, cell j hj 0 _ rfl, fun h => by rw [if_pos h, wrap64 (by omega) (by omega)], fun h => by rw [if_neg h]; omega⟩, ?_⟩
    rintro b2 hb2
    refine ⟨_, cell j hj 0 _ rfl, fun h1k => ?_, fun h1k => ⟨m - 1, by omega, j + 1, wsucc hj (by omega), by omega, rfl, ?_⟩⟩
    · rw [if_neg (by omega)] at hb2
      have hb2' : b2 = bal := by omega
      subst hb2'
      have bal' : IntKind.wrap .i64 (b2 - 1) = (L.length : Int) + rems (evs.take (j + 1)) - adds (evs.take (j + 1)) := by
        rw [rs, as, if_neg (by omega), if_pos h1k, wrap64 (by omega) (by omega)]; push_cast; omega
      refine ⟨fun m2 k rem => ∃ kk : Nat, k = kk ∧ j ≤ kk ∧ kk + m2 = evs.length ∧ rem = gone evs evs[j].c j kk, evs.length - j, ⟨j, rfl, Nat.le_refl _, by omega, (gone_self _ _ _).symm⟩, ?_⟩
      rintro m2 _ rem ⟨kk, rfl, hjk, hm2, hrem⟩
      refine ⟨_, hv27.len, fun hlt2 => ?_, fun hge2 => ?_⟩
      · have hkk : kk < evs.length := by omega
        have gs := gone_succ (c := evs[j].c) hjk hkk
        refine ⟨fun hr => ⟨m2 - 1, by omega, kk + 1, wsucc hkk (by omega), by omega, by omega, by rw [gs, ← hrem, hr]; rfl⟩, fun hr => ⟨_, cell kk hkk 0 _ rfl, fun h2 => ⟨_, cell kk hkk 1 _ rfl, _, cell j hj 1 _ rfl, m2 - 1, by omega, kk + 1, wsucc hkk (by omega), by omega, by omega, ?_⟩, fun h2 => ⟨m2 - 1, by omega, kk + 1, wsucc hkk (by omega), by omega, by omega, ?_⟩⟩⟩
        · have hr' : gone evs evs[j].c j kk = false := by rw [← hrem]; simpa using hr
          rw [gs, hr', Bool.false_or, decide_eq_true h2, Bool.true_and]
          rw [Bool.eq_iff_iff]; simp
        · have hr' : gone evs evs[j].c j kk = false := by rw [← hrem]; simpa using hr
          rw [gs, hr', Bool.false_or, decide_eq_false h2, Bool.false_and]
      · have hkk : kk = evs.length := by omega
        subst hkk
        refine ⟨fun hr => ⟨_, cell j hj 1 _ rfl, h3 hA ⟨_, rfl, fun hno => ?_, fun _ => ⟨m - 1, by omega, j + 1, wsucc hj (by omega), by omega, rfl, bal'⟩⟩⟩, fun hr => ⟨m - 1, by omega, j + 1, wsucc hj (by omega), by omega, rfl, bal'⟩⟩
        exfalso
        rcases hhist.there j hj h1k with hin | hgone
        · exact hno (by simpa using (hmem _).2 hin)
        · rw [hrem] at hr
          exact hr (gone_iff.2 hgone)
    · rw [rs, as, if_neg h1k, hb2, hbal]; push_cast; split <;> omega
  · have hj : j = evs.length := by omega
    subst hj
    rw [List.take_length] at hbal
    show AV.bool _ = AV.bool true
    have : bal = 0 := by omega
    rw [this]; rfl

/-! ### FunctionsMatchSpec -/

end Go.RM

/-
  The end of a law's run.
-/
namespace Go.RM
end Go.RM

