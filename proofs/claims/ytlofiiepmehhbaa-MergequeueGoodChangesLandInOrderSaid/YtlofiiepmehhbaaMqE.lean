import Derived.Test.YtlofiiepmehhbaaMqL
import Derived.Test.YtlofiiepmehhbaaMqP
/-
  Package mergequeue: the laws return true.
-/
namespace Go.RM
set_option linter.unusedSimpArgs false
set_option linter.unusedVariables false
set_option maxRecDepth 4000
open Mq

variable {F : Nat → Option RFunc}

namespace Mq
def exA : List Ev := [⟨1, 5, 0⟩, ⟨1, 6, 0⟩, ⟨3, 6, 0⟩]
def exB : List Ev := [⟨1, 5, 0⟩, ⟨1, 6, 0⟩, ⟨3, 6, 0⟩, ⟨3, 5, 0⟩]
end Mq
theorem exA_ok : (runQ 2 exA).2.1 = 0 ∧ (runQ 2 exA).1.la = [] ∧ (runQ 2 exA).1.es.length = 2 := by decide +kernel
theorem exB_ok : (runQ 2 exB).2.1 = 0 ∧ (runQ 2 exB).1.la = [5, 6] := by decide +kernel
theorem exO_ok : (outE 2 exB 6).1 = 1 ∧ (outE 2 exB 6).2.1 = 1 ∧ (outE 2 exB 6).2.2.1 = 0 := by decide +kernel

abbrev MExC (F : Nat → Option RFunc) (f : Nat) : Prop := ∀ {fl H Q}, fl ≤ H.length → (∀ H', Keep H.length H H' → Q (.bool true) H') → Ret F fl f [] H Q
theorem mex_c {f n1 n2 n3 : Nat} (hF : F f = some (rf_LqueueExample n1 n2 n3)) (h1 : RunC F n1) (h2 : OutcomeC F n2) (h3 : FEqualIntsC F n3) : MExC F f := fun {fl H Q} hfl hq => by
  refine v_LqueueExample hF ?_
  intro b0 H1 h0
  have harr : Arr tEv H1 (.slice b0 0 4 (some 4)) exB := NewB.arr (T := tEv) h0 (exB.map fun x : Ev => [i64 x.k, i64 x.c, i64 x.p]) rfl ⟨rfl, rfl, rfl, rfl, trivial⟩ rfl
  obtain ⟨s2, g1, g2⟩ := harr.upto (n := 3) (by decide)
  have g2' : Arr tEv H1 s2 exA := g2
  obtain ⟨a1, a2, a3⟩ := exA_ok
  obtain ⟨b1, b2⟩ := exB_ok
  obtain ⟨o1, o2, o3⟩ := exO_ok
  refine ⟨s2, g1, h1 g2' (by have := h0.keep.len; omega) fun ve vl vr H8 k8 he hl hr => ⟨ve, vl, vr, _, _, rfl, ?_⟩⟩
  intro H10 d10 H11 d11
  have k11 := (h0.keep.call k8).call (d10.keep.call d11.keep)
  have k111 := k8.call (d10.keep.call d11.keep)
  refine ⟨he.scal, hl.scal, hr.scal, h1 (harr.keep k111) (by have := k11.len; omega) fun we wl wr H20 k20 he2 hl2 hr2 => ⟨we, wl, wr, _, _, rfl, ?_⟩⟩
  intro H22 d22 H23 d23
  have k23 := k20.call (d22.keep.call d23.keep)
  have k123 := k111.call k23
  refine ⟨he2.scal, hl2.scal, hr2.scal, h2 (harr.keep k123) (by have := (h0.keep.call k123).len; omega) fun H31 k31 => ⟨_, _, _, _, rfl, ?_⟩⟩
  intro H33 d33
  have k33 := (h0.keep.call k123).call (k31.call d33.keep)
  refine ⟨_, hl.len, _, he.len, fun hc => ?_, fun hc => ?_⟩
  · intro b36 H37 h36
    have harr2 : Ints H37 (.slice b36 0 2 (some 2)) [5, 6] := h36.ints [5, 6] rfl rfl
    have hl2' := (hl2.keep ((d22.keep.call d23.keep).call (k31.call d33.keep))).keep h36.keep
    refine h3 hl2' harr2 ⟨_, rfl, ?_⟩
    rw [b2, o1, o2]
    exact hq H37 (k33.call h36.keep)
  · exact absurd (by rw [a1, b1, o3, a2, a3]; decide) hc

/-- Where there was no fault, all lists together are short. -/
theorem runQ_short {w : Int} {evs : List Ev} : (runQ w evs).1.es.length + ((runQ w evs).1.la.length + (runQ w evs).1.re.length) ≤ 40 := by
  by_cases h : (runQ w evs).2.1 = 0
  · have h1 := (runQ_hist h).n
    obtain ⟨_, _, h2, _⟩ := runQ_win h
    have h3 : adds evs ≤ evs.length := List.length_filter_le _ _
    unfold allE at h1
    simp only [List.length_append, List.length_map] at h1
    omega
  · have : (runQ w evs).1 = q0 := by
      unfold runQ at h ⊢
      split
      · rfl
      · rename_i h1
        rw [if_neg h1] at h
        split
        · rfl
        · rename_i h2
          rw [if_neg h2] at h
          have key : ∀ (l : List Ev) (i : Int) (q : QS), (runE w l i q).2.1 ≠ 0 → (runE w l i q).1 = q0 := by
            intro l
            induction l with
            | nil => intro i q h; exact absurd rfl h
            | cons x r ih =>
              intro i q h
              rw [runE] at h ⊢
              split
              · rfl
              · rename_i h3; rw [if_neg h3] at h; exact ih _ _ h
          exact key _ _ _ h
    rw [this]; decide

/-! ### MainLineOnlyGrows -/

/-! ### TestsWhatLands -/

end Go.RM

/-
  Package mergequeue: the other laws.
-/
namespace Go.RM
set_option linter.unusedSimpArgs false
set_option linter.unusedVariables false
set_option maxRecDepth 4000
open Mq

variable {F : Nat → Option RFunc}

/-- append(nil, v...), of structs. -/
theorem own_copyG {H : Heap} {v : AV} {e m bytes fl : Nat} {cs : List AV} {free : Bool} (h : Sl H e v m cs) (hs : cs.all AV.scalar = true) (hm : m ≤ 2 ^ 20) (hb : bytes ≤ 4096) :
    ∃ a H', appA fl free e bytes H .empty v = some (a, H') ∧ Own H.length H' e a m cs ∧ Keep H.length H H' ∧ (∀ b, At a b → H.length ≤ b) := by
  obtain ⟨c1, c2⟩ := sl_cells h
  have hcl : cs.length = m * e := by
    rcases h.out with ⟨rfl, rfl, rfl⟩ | ⟨b, off, lim, k, rfl, h2, h3, h4, h5, h6⟩
    · simp
    · rw [h6, List.length_take, List.length_drop]; omega
  have hstart : appA fl free e bytes H .empty v = rappend fl free e bytes H .empty m cs := by
    show (match sliceLen v with | some k => (sliceCells H e k v).bind fun xs => rappend fl free e bytes H .empty k xs | none => none) = _
    rw [c1]; simp only [c2, Option.bind_some]
  rw [hstart]
  unfold rappend
  by_cases h0 : m = 0
  · subst h0
    have : cs = [] := List.eq_nil_of_length_eq_zero (by rw [hcl, Nat.zero_mul])
    subst this
    exact ⟨.empty, H, rfl, Own.nil, Keep.refl H, fun b hb => absurd hb at_empty⟩
  · rw [if_neg h0]
    simp only
    have : m * bytes ≤ 2 ^ 48 := by
      calc m * bytes ≤ 2 ^ 20 * 4096 := Nat.mul_le_mul hm hb
        _ ≤ 2 ^ 48 := by decide
    rw [if_pos ⟨this, by omega⟩]
    refine ⟨.slice H.length 0 m none, H ++ [{ cells := cs, e := e }], rfl, ⟨by omega, .inr ⟨H.length, 0, none, { cells := cs, e := e }, rfl, Nat.le_refl _, snoc_end _ _, rfl, rfl, by simp [hcl], by
      show cs = (cs.drop 0).take (m * e)
      rw [List.drop_zero, List.take_of_length_le (by omega)], ⟨m, by simp [hcl]⟩, fun c hc => by cases hc⟩⟩, Keep.app H _, fun b hb => Nat.le_of_eq (at_slice.same hb)⟩

abbrev evC (x : Ev) : List AV := [i64 x.k, i64 x.c, i64 x.p]
abbrev OEv (n : Nat) (H : Heap) (v : AV) (l : List Ev) : Prop := Own n H 3 v l.length (l.map evC).flatten
theorem All2.evs {H : Heap} : ∀ l : List Ev, All2 (tEv.rel H) (l.map evC) l
  | [] => trivial
  | _ :: l => ⟨rfl, All2.evs l⟩
theorem oev_arr {n : Nat} {H : Heap} {v : AV} {l : List Ev} (h : OEv n H v l) : Arr tEv H v l := ⟨l.map evC, All2.evs l, h.sl⟩
theorem arr_evs {H : Heap} {v : AV} {l : List Ev} (h : Arr tEv H v l) : Sl H 3 v l.length (l.map evC).flatten := by
  obtain ⟨css, h1, h2⟩ := h
  have : css = l.map evC := by
    clear h2
    induction l generalizing css with
    | nil => cases css with
      | nil => rfl
      | cons _ _ => exact h1.elim
    | cons x l ih => cases css with
      | nil => exact h1.elim
      | cons c css => rw [List.map_cons, ← ih css h1.2, show c = evC x from h1.1]
  rw [← this]; exact h2

theorem oev_push {n b fl : Nat} {H H1 : Heap} {v : AV} {l : List Ev} {x : Ev} (h : OEv n H v l) (hn : n ≤ H.length) (hb : NewB H 3 (evC x) b H1) (hfl : fl ≤ n) (hl : l.length ≤ 2 ^ 20) :
    ∃ v' H2, appA fl true 3 24 H1 v (.slice b 0 1 (some 1)) = some (v', H2) ∧ OEv n H2 v' (l ++ [x]) ∧ H.length ≤ H2.length ∧ (∀ y, y < H.length → ¬ At v y → H2[y]? = H[y]?) ∧ (∀ y, At v' y → At v y ∨ H.length ≤ y) := by
  obtain ⟨v', H2, a1, a2, a3, a4, a5⟩ := (h.keep hb.keep).push (bytes := 24) (fl := fl) (by decide) (hb.sl (n := 1) rfl) (Nat.le_trans hn hb.keep.len) hfl (by rfl) (by omega) (by decide)
  refine ⟨v', H2, a1, ?_, Nat.le_trans hb.keep.len a3, fun y hy hne => by rw [a4 y (Nat.lt_of_lt_of_le hy hb.keep.len) hne, hb.keep.get y hy], fun y hy => ?_⟩
  · unfold OEv; rw [List.length_append, List.map_append, List.flatten_append]; simpa using a2
  · rcases a5 y hy with h1 | h1
    · exact .inl h1
    · exact .inr (Nat.le_trans hb.keep.len h1)

/-! ### GoodChangesLandInOrder -/

theorem lGood_c {f n1 n2 n3 : Nat} (hF : F f = some (rf_LMergequeueGoodChangesLandInOrder n1 n2 n3)) (h1 : RunC F n1) (h2 : MExC F n2) (h3 : FEqualIntsC F n3) {fl : Nat} {H : Heap} {w : Int} {v : AV} {evs : List Ev} (hv : Arr tEv H v evs) (hfl : fl ≤ H.length) :
    Ret F fl f [i64 w, v] H tru := by
  refine v_LMergequeueGoodChangesLandInOrder hF _ _ ?_
  refine h1 hv hfl fun ve vl vr H7 k7 he hl hr => ⟨ve, vl, vr, _, _, rfl, ?_⟩
  intro H9 d9 H10 d10
  have k10 := d9.keep.call d10.keep
  refine ⟨he.scal, hl.scal, hr.scal, h2 (by have := (k7.call k10).len; omega) fun H15 k15 => ⟨_, rfl, fun h => absurd rfl h, fun _ => ⟨fun _ => rfl, fun hc => ?_⟩⟩⟩
  have hc : (runQ w evs).2.1 = 0 := by simpa using hc
  obtain ⟨w1, w2, w3, _⟩ := runQ_win hc
  have hshort := runQ_short (w := w) (evs := evs)
  have he15 := (he.keep k10).keep k15
  have hl15 := (hl.keep k10).keep k15
  have hv15 := ((hv.keep k7).keep k10).keep k15
  have hn15 : fl ≤ H15.length := by have := ((k7.call k10).call k15).len; omega
  obtain ⟨a17, H18, a1, a2, a3, a4⟩ := own_copyG (fl := fl) (free := true) (bytes := 24) (arr_evs hv15) (All2.evs (H := H15) evs).scals (by omega) (by decide)
  have a2 : OEv H15.length H18 a17 evs := a2
  obtain ⟨a19, H20, b1, b2, b3, b4⟩ := own_copy (fl := fl) (free := true) (hl15.keep a3) (by omega)
  have b2' := b2.less a3.len
  have dis0 : ∀ b, At a19 b → ¬ At a17 b := fun b hb ha => by have := b4 b hb; have := (a2.at_lt ha).2; omega
  refine ⟨a17, H18, a1, a19, H20, b1, ?_⟩
  -- what is wanted
  refine ⟨fun m i want H' => ∃ j : Nat, i = j ∧ j + m = (runQ w evs).1.es.length ∧ Keep H15.length H15 H' ∧ OEv H15.length H' a17 evs ∧ OI H15.length H' want ((runQ w evs).1.la ++ chs ((runQ w evs).1.es.take j)) ∧ (∀ b, At want b → ¬ At a17 b), (runQ w evs).1.es.length, ⟨0, rfl, by omega, a3.call b3, a2.keep b3, by simpa using b2', dis0⟩, ?_⟩
  rintro m _ want H27 ⟨j, rfl, hm, hk, hmore, hwant, hdis⟩
  have he27 := he15.keep hk
  refine ⟨_, he27.len, fun hlt => ?_, fun hge => ?_⟩
  · have hj : j < (runQ w evs).1.es.length := by omega
    obtain ⟨cs, ⟨wv, rfl, _⟩, _, hcell⟩ := he27.get hj
    refine ⟨_, hcell 0 _ rfl, fun b31 H32 h32 => ?_⟩
    obtain ⟨a33, H34, c1, c2, c3, c4, c5⟩ := own_push (fl := fl) hwant hk.len h32 hn15 (by simp; omega)
    refine ⟨a33, H34, c1, m - 1, by omega, j + 1, wsucc hj (by omega), by omega, hk.tr (keep_push hwant hk.len c3 c4), hmore.frame fun b hb => c4 b (hmore.at_lt hb).2 fun ha => hdis b ha hb, ?_, fun b hb ha => ?_⟩
    · have : chs ((runQ w evs).1.es.take (j + 1)) = chs ((runQ w evs).1.es.take j) ++ [(runQ w evs).1.es[j].ch] := by unfold chs; rw [List.take_succ_eq_append_getElem hj, List.map_append]; rfl
      rw [this, ← List.append_assoc]; exact c2
    · rcases c5 b hb with h | h
      · exact hdis b h ha
      · have := (hmore.at_lt ha).2; omega
  have hj : j = (runQ w evs).1.es.length := by omega
  subst hj
  rw [List.take_length] at hwant
  generalize hwl : (runQ w evs).1.la ++ chs (runQ w evs).1.es = wl at hwant
  refine ⟨fun m r more H' => ∃ (k : Nat) (l : List Ev), r = k ∧ k + m = 10 ∧ Keep H15.length H15 H' ∧ OEv H15.length H' more l ∧ OI H15.length H' want wl ∧ (∀ b, At want b → ¬ At more b) ∧ l.length ≤ 40 ∧ (runQ w l).2.1 = 0 ∧ (runQ w l).1.la ++ chs (runQ w l).1.es = wl,
    10, ⟨0, evs, rfl, rfl, hk, hmore, hwant, hdis, w3, hc, hwl⟩, ?_⟩
  rintro m _ more H50 ⟨k, l, rfl, hkm, hk50, hm50, hw50, hd50, hl40, hcl, hwl'⟩
  refine ⟨_, hm50.len, fun hcond => ?_, fun _ => rfl⟩
  have hl39 : l.length < 40 := by omega
  refine h1 (oev_arr hm50) (by have := hk50.len; omega) fun ve2 vl2 vr2 H57 k57 he2 hl2 hr2 => ⟨ve2, vl2, vr2, _, _, rfl, ?_⟩
  intro H59 d59 H60 d60
  have k60 := d59.keep.call d60.keep
  have k5060 := k57.call k60
  have he60 := he2.keep k60
  have hl60 := hl2.keep k60
  have hinv := runQ_inv w l
  have hsh := runQ_short (w := w) (evs := l)
  refine ⟨he2.scal, hl2.scal, hr2.scal, True, ⟨fun h => absurd hcl h, fun _ => ⟨_, he60.len, fun hpos => ?_, fun _ => trivial⟩⟩, fun _ => ?_⟩
  · obtain ⟨cs, ⟨wv, rfl, _⟩, _, hcell⟩ := he60.get (i := 0) (by omega)
    refine ⟨_, hcell 4 _ rfl, fun hfa => ?_, fun _ => trivial⟩
    exfalso
    have hte := hinv.hd ((runQ w l).1.es[0]'(by omega)) (by rw [List.head?_eq_getElem?, List.getElem?_eq_getElem])
    exact (hinv.ex _ (List.getElem_mem (by omega : 0 < (runQ w l).1.es.length))).2.1 ⟨hte, hfa⟩
  · refine ⟨fun m2 i => ∃ j : Nat, i = j ∧ j + m2 = (runQ w l).1.es.length ∧ ∀ x ∈ (runQ w l).1.es.take j, x.fa = false, (runQ w l).1.es.length, ⟨0, rfl, by omega, by simp⟩, ?_⟩
    rintro m2 _ ⟨j, rfl, hm2, hj⟩
    refine ⟨_, he60.len, fun hlt => ?_, fun hge => ⟨_, he60.len, fun h0 => ?_, fun h0 => ?_⟩⟩
    · have hjl : j < (runQ w l).1.es.length := by omega
      obtain ⟨cs, ⟨wv, rfl, _⟩, _, hcell⟩ := he60.get hjl
      refine ⟨_, hcell 4 _ rfl, fun _ => rfl, fun hfa => ⟨m2 - 1, by omega, j + 1, wsucc hjl (by omega), by omega, fun x hx => ?_⟩⟩
      rw [List.take_succ_eq_append_getElem hjl, List.mem_append, List.mem_singleton] at hx
      rcases hx with hx | rfl
      · exact hj x hx
      · have : ¬ (runQ w l).1.es[j].fa = true := hfa
        simpa using this
    · have h0' : (runQ w l).1.es = [] := List.eq_nil_of_length_eq_zero (by omega)
      refine h3 hl60 ((hw50.keep k5060).ints) ⟨_, rfl, ?_⟩
      show AV.bool _ = AV.bool true
      rw [h0'] at hwl'
      simp at hwl'
      simp [hwl']
    · have hjl : j = (runQ w l).1.es.length := by omega
      subst hjl
      rw [List.take_length] at hj
      obtain ⟨e, r, her⟩ : ∃ e r, (runQ w l).1.es = e :: r := by
        cases h : (runQ w l).1.es with
        | nil => rw [h] at h0; exact absurd rfl h0
        | cons e r => exact ⟨e, r, rfl⟩
      obtain ⟨g1, g2⟩ := good_step hcl hl39 her hj
      obtain ⟨cs, ⟨wv, rfl, _⟩, _, hcell⟩ := he60.get (i := 0) (by omega)
      have e0 : ((runQ w l).1.es[0]'(by omega)) = e := by simp [her]
      refine ⟨e.ch, by rw [← e0]; exact hcell 0 _ rfl, fun b87 H88 h88 => ?_⟩
      have hm60 := hm50.keep k5060
      have hw60 := hw50.keep k5060
      have hk60 := hk50.call k5060
      obtain ⟨a89, H90, c1, c2, c3, c4, c5⟩ := oev_push (x := ⟨3, e.ch, 0⟩) (fl := fl) hm60 hk60.len h88 hn15 (by omega)
      refine ⟨a89, H90, c1, m - 1, by omega, k + 1, l ++ [⟨3, e.ch, 0⟩], by rw [wrap64 (by omega) (by omega)]; omega, by omega, hk60.tr ⟨hk60.len, c3, fun b hb => c4 b (by have := hk60.len; omega) fun ha => by have := (hm60.at_lt ha).1; omega⟩, c2, hw60.frame fun b hb => c4 b (hw60.at_lt hb).2 (hd50 b hb), fun b hb ha => ?_, by simp; omega, g1, g2.trans hwl'⟩
      rcases c5 b ha with h | h
      · exact hd50 b hb h
      · have := (hw60.at_lt hb).2; omega

end Go.RM

/-
  Package mergequeue: nothing is lost; the functions match their specification.
-/
namespace Go.RM
set_option linter.unusedSimpArgs false
set_option linter.unusedVariables false
set_option maxRecDepth 4000
open Mq

variable {F : Nat → Option RFunc}

/-! ### FunctionsMatchSpec -/

end Go.RM

/-
  The end of a law's run.
-/
namespace Go.RM
end Go.RM

