import Derived.Test.YtlcoalimkpjjpaaRefW
/-
  Package rollout: start, report, advance and the steps.
-/
namespace Go.RM
set_option linter.unusedSimpArgs false
set_option linter.unusedVariables false
set_option maxRecDepth 4000

namespace Rol
def rg (l : List RS) (i : Nat) : RS := l.getD i ⟨[], 0, 0, 0⟩
structure Ev where
  kind : Int
  ver : Int
  ring : Int
  g : Int
  b : Int
def startR (v : Int) (l : List RS) : Int × List RS :=
  if v < 1 ∨ v > 1000000000 then (3, l) else if (rg l 0).act ≠ 0 then (15, l) else if v ≤ lastI (rg l 0).conf then (16, l) else (0, l.set 0 { rg l 0 with act := v })
def reportR (p : PP) (l : List RS) (i : Nat) (c1 c2 : Int) : Int × List RS :=
  if ¬ okC c1 c2 then (3, l) else if (rg l i).act = 0 then (11, l) else if ¬ okC ((rg l i).good + c1) ((rg l i).bad + c2) then (10, l) else
    if verdictI p.b1 p.b2 ((rg l i).good + c1) ((rg l i).bad + c2) p.need p.pm = 3 then (0, (l.set i { rg l i with good := (rg l i).good + c1, bad := (rg l i).bad + c2 }).map (abort1 (rg l i).act))
    else (0, l.set i { rg l i with good := (rg l i).good + c1, bad := (rg l i).bad + c2 })
def advanceR (p : PP) (l : List RS) (i : Nat) : Int × List RS :=
  if (rg l i).act = 0 then (11, l) else if verdictI p.b1 p.b2 (rg l i).good (rg l i).bad p.need p.pm ≠ 2 then (11, l) else
    if i + 1 < l.length ∧ (rg l (i + 1)).act ≠ 0 then (15, l) else
    (0, (if i + 1 < l.length then l.set (i + 1) { rg l (i + 1) with act := (rg l i).act } else l).set i ⟨(rg l i).conf ++ [(rg l i).act], 0, 0, 0⟩)
def unusedB (e : Ev) : Bool := (((((e.kind) == 1) || ((e.kind) == 4)) && ((e.ring) != 0)) || ((!(((e.kind) == 1) || ((e.kind) == 4))) && ((e.ver) != 0))) || (((e.kind) != 2) && (!(((e.g) == 0) && (((e.b) == 0) && true))))
def stepR (p : PP) (l : List RS) (e : Ev) : Int × List RS :=
  if e.kind < 1 ∨ e.kind > 4 then (4, l) else if unusedB e = true then (5, l) else if e.ring < 0 ∨ e.ring ≥ l.length then (3, l) else
    if e.kind = 1 then startR e.ver l else if e.kind = 2 then reportR p l e.ring.toNat e.g e.b else if e.kind = 3 then advanceR p l e.ring.toNat else
      if l.any (hit e.ver) then (0, l.map (abort1 e.ver)) else (6, l)
structure OkP (p : PP) : Prop where
  base : okC p.b1 p.b2
  par : okP p.need p.pm
end Rol
open Rol

variable {F : Nat → Option RFunc}
variable {n : Nat} {H H' : Heap} {pb b : Nat} {p : PP} {l : List (AV × RS)}

theorem get_eq {l : List (AV × RS)} {i : Nat} (hi : i < l.length) : rg (rs l) i = l[i].2 := by
  unfold rg rs; simp [List.getD, hi]
theorem rs_set {l : List (AV × RS)} {i : Nat} {w : AV} {r : RS} : rs (l.set i (w, r)) = (rs l).set i r := by unfold rs; rw [List.map_set]

abbrev LastC (F : Nat → Option RFunc) (f : Nat) : Prop := ∀ {fl H Q v} {cf : List Int} {a g b : Int}, Ints H v cf → (∀ H', Keep H.length H H' → Q (i64 (lastI cf)) H') → Ret F fl f [.agg [v, i64 a, i64 g, i64 b]] H Q
theorem last_c {f : Nat} (hF : F f = some rf_rollout_last) : LastC F f := fun {fl H Q v cf a g b} hv hq => by
  refine v_rollout_last hF _ _ _ _ ?_
  intro H4 d4
  have hs := hv.small
  unfold lastI at hq
  refine ⟨_, hv.len, fun hz => ?_, fun hz => ?_⟩
  · have : cf = [] := List.eq_nil_of_length_eq_zero (by omega)
    subst this
    exact hq H4 d4.keep
  · have hl : cf.length - 1 < cf.length := by omega
    refine ⟨_, hv.len, ?_⟩
    rw [wpred (by omega) hs]
    refine ⟨_, (hv.keep d4.keep).int hl, ?_⟩
    rw [List.getLast?_eq_getElem?, List.getElem?_eq_getElem hl] at hq
    exact hq H4 d4.keep

/-- What a step hands back. -/
abbrev Done (n : Nat) (H : Heap) (pb b : Nat) (p : PP) (r : Int × List RS) (Q : AV → Heap → Prop) : Prop := ∀ l' H', Keep n H H' → (r.1 = 0 → St n H' pb b p l' ∧ rs l' = r.2) → Q (i64 r.1) H'

abbrev StartC (F : Nat → Option RFunc) (f : Nat) : Prop := ∀ {fl H Q n pb b p l} {v : Int}, St n H pb b p l → 0 < l.length → fl ≤ n → Done n H pb b p (startR v (rs l)) Q → Ret F fl f [.ptr pb 0, i64 v] H Q
theorem start_c {f n1 : Nat} (hF : F f = some (rf_rollout_plan_start n1)) (h1 : LastC F n1) : StartC F f := fun {fl H Q n pb b p l v} hst h0 hfl hq => by
  refine v_rollout_plan_start hF _ _ _ ?_
  unfold startR at hq
  rw [get_eq h0] at hq
  have hp := hst.ptr h0
  rw [show ((0 : Nat) : Int) = 0 from rfl] at hp
  refine ⟨_, hst.rings, _, _, hp, fun hb => ?_, fun hb => ?_⟩
  · rw [if_pos hb] at hq; exact hq l H (Keep.rfl' hst.bn) fun h => by cases h
  · rw [if_neg hb] at hq
    refine ⟨_, hst.act h0, fun ha => ?_, fun ha => ?_⟩
    · rw [if_pos ha] at hq; exact hq l H (Keep.rfl' hst.bn) fun h => by cases h
    · rw [if_neg ha] at hq
      refine ⟨_, _, _, _, hst.row.loadN (i := 0) (c := ringC l[0]) (o := 0) (n := 4) (by simp [h0]) (by decide), h1 (hst.own _ (List.getElem_mem h0)).ints fun H12 k12 => ⟨_, rfl, fun hs => ?_, fun hs => ?_⟩⟩
      · rw [if_pos hs] at hq; exact hq l H12 (k12.less hst.bn) fun h => by cases h
      · rw [if_neg hs] at hq
        obtain ⟨H14, a1, a2, a3⟩ := (hst.keep k12).num hfl h0 (o := 1) (k := 1) (v := i64 v) rfl rfl (by decide) (r := { l[0].2 with act := v }) rfl rfl
        exact ⟨H14, a1, hq _ H14 ((k12.less hst.bn).tr a2) fun _ => ⟨a3, rs_set⟩⟩

abbrev ReportC (F : Nat → Option RFunc) (f : Nat) : Prop := ∀ {fl H Q n pb b p l} {i : Nat} {c1 c2 : Int}, St n H pb b p l → i < l.length → fl ≤ n → OkP p → (∀ x ∈ l, okC x.2.good x.2.bad) → (∀ x ∈ l, x.2.conf.length ≤ 2 ^ 29) → Done n H pb b p (reportR p (rs l) i c1 c2) Q → Ret F fl f [.ptr pb 0, .ptr b (i * 4), cnt c1 c2] H Q

theorem decide_verdict {p : PP} (hp : OkP p) {g c : Int} (h : okC g c) : decideR p.b1 p.b2 g c p.need p.pm = (verdictI p.b1 p.b2 g c p.need p.pm, (0, 0)) := by
  unfold decideR twoR
  rw [if_pos hp.base, if_pos h, if_pos rfl, if_pos hp.par]

theorem report_c {f n1 n2 n3 : Nat} (hF : F f = some (rf_rollout_plan_report n1 n2 n3)) (h1 : ValidC F n1) (h2 : DecideC F n2) (h3 : AbortC F n3) : ReportC F f := fun {fl H Q n pb b p l i c1 c2} hst hi hfl hp hok hcl hq => by
  refine v_rollout_plan_report hF _ _ _ _ _ _ ?_
  intro H6 d6
  unfold reportR at hq
  rw [get_eq hi] at hq
  have hr := hok _ (List.getElem_mem hi)
  refine h1 fun H9 k9 => ⟨_, _, rfl, fun H11 d11 => ?_⟩
  have k11 := (d6.keep.call k9).call d11.keep
  have kn := k11.less hst.bn
  have hvi : ∀ (g c : Int), ((validR g c).1 = 0 ∧ (validR g c).2 = 0 ∧ True) ↔ okC g c := fun g c => by
    unfold validR
    by_cases h : okC g c
    · rw [if_pos h]; simp [h]
    · rw [if_neg h]; simp [h]
  rw [hvi]
  refine ⟨fun hb => ?_, fun hb => ?_⟩
  · rw [if_pos hb] at hq
    have : (validR c1 c2).1 = 3 := by unfold validR; rw [if_neg hb]
    rw [this]; exact hq l H11 kn fun h => by cases h
  · rw [if_neg hb] at hq
    have hb := Decidable.not_not.1 hb
    have s11 := hst.keep k11
    refine ⟨_, s11.act hi, fun ha => ?_, fun ha => ?_⟩
    · rw [if_pos ha] at hq; exact hq l H11 kn fun h => by cases h
    · rw [if_neg ha] at hq
      refine ⟨_, s11.cell hi (o := 2) rfl, _, s11.cell hi (o := 3) rfl, fun H15 d15 => ?_⟩
      have e1 : IntKind.wrap .i64 (l[i].2.good + c1) = l[i].2.good + c1 := by unfold okC at hr hb; rw [wrap64 (by omega) (by omega)]
      have e2 : IntKind.wrap .i64 (l[i].2.bad + c2) = l[i].2.bad + c2 := by unfold okC at hr hb; rw [wrap64 (by omega) (by omega)]
      rw [e1, e2]
      refine h1 fun H18 k18 => ⟨_, _, rfl, ?_⟩
      have k18 := (k11.call d15.keep).call k18
      have kn := k18.less hst.bn
      have s18 := hst.keep k18
      rw [hvi]
      refine ⟨fun hs => ?_, fun hs => ?_⟩
      · rw [if_pos hs] at hq; exact hq l H18 kn fun h => by cases h
      · rw [if_neg hs] at hq
        have hs := Decidable.not_not.1 hs
        obtain ⟨H20, a1, a2, a3⟩ := s18.num hfl hi (o := 2) (k := 2) (v := .agg [i64 (l[i].2.good + c1), i64 (l[i].2.bad + c2)]) rfl rfl (by decide) (r := { l[i].2 with good := l[i].2.good + c1, bad := l[i].2.bad + c2 }) rfl rfl
        have k20 := kn.tr a2
        refine ⟨H20, a1, _, _, a3.box.loadN (o := 0) (n := 2) (by show 2 ≤ 5; decide), _, a3.box.load (o := 2) rfl, _, a3.box.load (o := 3) rfl, ?_⟩
        refine h2 (Nat.le_refl _) fun H28 k28 => ⟨_, _, _, rfl, fun b30 H31 hb31 => ?_⟩
        obtain ⟨H32, b1, b2⟩ := put2 hb31 (fl := fl) (x := 0) (y := 0) (a := (decideR p.b1 p.b2 (l[i].2.good + c1) (l[i].2.bad + c2) p.need p.pm).2.1) (c := (decideR p.b1 p.b2 (l[i].2.good + c1) (l[i].2.bad + c2) p.need p.pm).2.2) (by have := hst.bn; have := k20.len; have := k28.len; omega)
        refine ⟨H32, b1, ?_⟩
        have k32 := k28.call b2
        have s32 := a3.keep k32
        rw [decide_verdict hp hs]
        refine ⟨fun hv => ?_, fun hv => ?_⟩
        · rw [if_pos hv] at hq
          have hi2 : i < (l.set i (l[i].1, { l[i].2 with good := l[i].2.good + c1, bad := l[i].2.bad + c2 })).length := by simpa using hi
          refine ⟨_, s32.act hi2, h3 s32 hfl (fun x hx => ?_) fun l' H35 k35 s35 hl' => ⟨_, rfl, hq l' H35 ((k20.tr (k32.less a3.bn)).tr k35) fun _ => ⟨s35, ?_⟩⟩⟩
          · rcases List.mem_or_eq_of_mem_set hx with hx | rfl
            · exact hcl x hx
            · have := hcl _ (List.getElem_mem hi)
              exact this
          · rw [hl', rs_set]
            simp only [List.getElem_set_self]
        · rw [if_neg hv] at hq
          exact hq _ H32 (k20.tr (k32.less a3.bn)) fun _ => ⟨s32, rs_set⟩

abbrev AdvanceC (F : Nat → Option RFunc) (f : Nat) : Prop := ∀ {fl H Q n pb b p l} {i : Nat}, St n H pb b p l → i < l.length → fl ≤ n → OkP p → (∀ x ∈ l, okC x.2.good x.2.bad) → (∀ x ∈ l, x.2.conf.length ≤ 2 ^ 29) → Done n H pb b p (advanceR p (rs l) i) Q → Ret F fl f [.ptr pb 0, i64 (i : Int)] H Q

/-- The end of advance: ring i confirms its version. -/
theorem confirm {fl i : Nat} {Q : AV → Heap → Prop} {P : PP → Prop} (hst : St n H pb b p l) (hfl : fl ≤ n) (hi : i < l.length) (hcl : l[i].2.conf.length ≤ 2 ^ 29)
    (hq : ∀ l' H', Keep n H H' → St n H' pb b p l' → rs l' = (rs l).set i ⟨l[i].2.conf ++ [l[i].2.act], 0, 0, 0⟩ → Q (i64 0) H') :
    ∃ (e29 : AV), rload H none b (i * 4) = some e29 ∧ ∃ (e30 : Int), rload H none b (i * 4 + 1) = some (i64 e30) ∧ ∀ (b31 : Nat) (H32 : Heap), NewB H 1 [i64 e30] b31 H32 → ∃ (a33 : AV) (H34 : Heap), appA fl true 1 8 H32 e29 (.slice b31 0 1 (some 1)) = some (a33, H34) ∧ ∃ H35 : Heap, putA fl H34 b (i * 4) 1 a33 = some H35 ∧ ∃ H36 : Heap, putA fl H35 b (i * 4 + 1) 1 (i64 0) = some H36 ∧ ∃ H37 : Heap, putA fl H36 b (i * 4 + 2) 2 (.agg [i64 0, i64 0]) = some H37 ∧ Q (i64 0) H37 := by
  refine ⟨_, hst.conf hi, _, hst.act hi, fun b31 H32 hb => ?_⟩
  have s32 := hst.keep hb.keep
  have ho := s32.own _ (List.getElem_mem hi)
  have hsl := hb.sl (n := 1) (by rfl)
  obtain ⟨w, H34, a1, a2, a3, a4, a5⟩ := ho.push (by decide) hsl s32.bn hfl (by rfl) (by omega) (bytes := 8) (by decide)
  have a2' : Own n H34 1 w (l[i].2.conf ++ [l[i].2.act]).length (ints (l[i].2.conf ++ [l[i].2.act])) := by
    rw [List.length_append]; unfold ints; rw [List.map_append]; exact a2
  obtain ⟨H35, b1, b2, b3⟩ := s32.setConf hfl hi (cf := l[i].2.conf ++ [l[i].2.act]) a3 a4 a2' a5
  refine ⟨w, H34, a1, H35, b1, ?_⟩
  have hi3 : i < (l.set i (w, { l[i].2 with conf := l[i].2.conf ++ [l[i].2.act] })).length := by simpa using hi
  have e3 : (l.set i (w, { l[i].2 with conf := l[i].2.conf ++ [l[i].2.act] }))[i] = (w, { l[i].2 with conf := l[i].2.conf ++ [l[i].2.act] }) := by simp
  obtain ⟨H36, c1, c2, c3⟩ := b3.num hfl hi3 (o := 1) (k := 1) (v := i64 0) rfl rfl (by decide) (r := ⟨l[i].2.conf ++ [l[i].2.act], 0, l[i].2.good, l[i].2.bad⟩) (by rw [e3]; rfl) (by rw [e3])
  rw [e3, List.set_set] at c3
  have hi4 : i < (l.set i (w, (⟨l[i].2.conf ++ [l[i].2.act], 0, l[i].2.good, l[i].2.bad⟩ : RS))).length := by simpa using hi
  have e4 : (l.set i (w, (⟨l[i].2.conf ++ [l[i].2.act], 0, l[i].2.good, l[i].2.bad⟩ : RS)))[i] = (w, (⟨l[i].2.conf ++ [l[i].2.act], 0, l[i].2.good, l[i].2.bad⟩ : RS)) := by simp
  obtain ⟨H37, d1, d2, d3⟩ := c3.num hfl hi4 (o := 2) (k := 2) (v := .agg [i64 0, i64 0]) rfl rfl (by decide) (r := ⟨l[i].2.conf ++ [l[i].2.act], 0, 0, 0⟩) (by rw [e4]; rfl) (by rw [e4])
  rw [e4, List.set_set] at d3
  exact ⟨H36, c1, H37, d1, hq _ H37 ((((hb.keep.less hst.bn).tr b2).tr c2).tr d2) d3 rs_set⟩

theorem advance_c {f n1 : Nat} (hF : F f = some (rf_rollout_plan_advance n1)) (h1 : DecideC F n1) : AdvanceC F f := fun {fl H Q n pb b p l i} hst hi hfl hp hok hcl hq => by
  refine v_rollout_plan_advance hF _ _ _ ?_
  unfold advanceR at hq
  rw [get_eq hi] at hq
  have hr := hok _ (List.getElem_mem hi)
  have hsm := hst.small
  refine ⟨_, hst.rings, _, _, hst.ptr hi, _, hst.act hi, fun ha => ?_, fun ha => ?_⟩
  · rw [if_pos ha] at hq; exact hq l H (Keep.rfl' hst.bn) fun h => by cases h
  · rw [if_neg ha] at hq
    refine ⟨_, _, hst.box.loadN (o := 0) (n := 2) (by show 2 ≤ 5; decide), _, _, hst.row.loadN (i := i) (c := ringC l[i]) (o := 2) (n := 2) (by simp [hi]) (by decide), _, hst.box.load (o := 2) rfl, _, hst.box.load (o := 3) rfl, ?_⟩
    refine h1 (Nat.le_refl _) fun H16 k16 => ⟨_, _, _, rfl, fun b18 H19 hb19 => ?_⟩
    obtain ⟨H20, b1, b2⟩ := put2 hb19 (fl := fl) (x := 0) (y := 0) (a := (decideR p.b1 p.b2 l[i].2.good l[i].2.bad p.need p.pm).2.1) (c := (decideR p.b1 p.b2 l[i].2.good l[i].2.bad p.need p.pm).2.2) (by have := hst.bn; have := k16.len; omega)
    refine ⟨H20, b1, ?_⟩
    have k20 := k16.call b2
    have kn := k20.less hst.bn
    have s20 := hst.keep k20
    rw [decide_verdict hp hr]
    refine ⟨fun hv => ?_, fun hv => ?_⟩
    · rw [if_pos hv] at hq; exact hq l H20 kn fun h => by cases h
    · rw [if_neg hv] at hq
      refine ⟨_, s20.rings, _, rfl, ?_⟩
      rw [wsucc hi (by omega)]
      refine ⟨fun hlt => ?_, fun hge => ?_⟩
      · have hi1 : i + 1 < l.length := by omega
        have hi1' : i + 1 < (rs l).length := by simpa using hi1
        rw [get_eq hi1] at hq
        refine ⟨_, s20.rings, _, _, s20.ptr hi1, _, s20.act hi1, fun hn => ?_, fun hn => ?_⟩
        · rw [if_pos ⟨hi1', hn⟩] at hq; exact hq l H20 kn fun h => by cases h
        · rw [if_neg fun h => hn h.2, if_pos hi1'] at hq
          obtain ⟨H28, c1, c2, c3⟩ := s20.num hfl hi1 (o := 1) (k := 1) (v := i64 l[i].2.act) rfl rfl (by decide) (r := { l[i + 1].2 with act := l[i].2.act }) rfl rfl
          have hi' : i < (l.set (i + 1) (l[i + 1].1, { l[i + 1].2 with act := l[i].2.act })).length := by simpa using hi
          have ei : (l.set (i + 1) (l[i + 1].1, { l[i + 1].2 with act := l[i].2.act }))[i] = l[i] := by rw [List.getElem_set_ne (by omega)]
          refine ⟨_, s20.act hi, H28, c1, ?_⟩
          refine confirm (P := fun _ => True) c3 hfl hi' (by rw [ei]; exact hcl _ (List.getElem_mem hi)) fun l' H' k' s' hl' => hq l' H' ((kn.tr c2).tr k') fun _ => ⟨s', ?_⟩
          rw [hl', ei, rs_set]
      · have hi1' : ¬ i + 1 < (rs l).length := by simp; omega
        rw [if_neg fun h => hi1' h.1, if_neg hi1'] at hq
        exact confirm (P := fun _ => True) s20 hfl hi (hcl _ (List.getElem_mem hi)) fun l' H' k' s' hl' => hq l' H' (kn.tr k') fun _ => ⟨s', hl'⟩

/-! ### A step -/

def evC (e : Ev) : List AV := [i64 e.kind, i64 e.ver, i64 e.ring, i64 e.g, i64 e.b]
abbrev UnusedC (F : Nat → Option RFunc) (f : Nat) : Prop := ∀ {fl H Q} {e : Ev}, (∀ H', Keep H.length H H' → Q (.bool (unusedB e)) H') → Ret F fl f [.agg (evC e)] H Q
theorem unused_c {f : Nat} (hF : F f = some rf_rollout_unused) : UnusedC F f := fun {fl H Q e} hq => by
  refine v_rollout_unused hF _ _ _ _ _ ?_
  intro H5 d5
  exact hq H5 d5.keep

abbrev StepC (F : Nat → Option RFunc) (f : Nat) : Prop := ∀ {fl H Q n pb b p l} {e : Ev}, St n H pb b p l → fl ≤ n → OkP p → (∀ x ∈ l, okC x.2.good x.2.bad) → (∀ x ∈ l, x.2.conf.length ≤ 2 ^ 29) → Done n H pb b p (stepR p (rs l) e) Q → Ret F fl f [.ptr pb 0, .agg (evC e)] H Q
theorem step_c {f n1 n2 n3 n4 n5 : Nat} (hF : F f = some (rf_rollout_plan_step n1 n2 n3 n4 n5)) (h1 : UnusedC F n1) (h2 : StartC F n2) (h3 : ReportC F n3) (h4 : AdvanceC F n4) (h5 : AbortC F n5) : StepC F f := fun {fl H Q n pb b p l e} hst hfl hp hok hcl hq => by
  refine v_rollout_plan_step hF _ _ _ _ _ _ _ ?_
  intro H7 d7
  unfold stepR at hq
  have k7 := d7.keep
  refine ⟨fun hk => ?_, fun hk => ?_⟩
  · rw [if_pos hk] at hq; exact hq l H7 (k7.less hst.bn) fun h => by cases h
  rw [if_neg hk] at hq
  refine h1 fun H9 k9 => ⟨_, rfl, ?_⟩
  have k9 := k7.call k9
  have kn := k9.less hst.bn
  have s9 := hst.keep k9
  refine ⟨fun hu => ?_, fun hu => ?_⟩
  · rw [if_pos hu] at hq; exact hq l H9 kn fun h => by cases h
  rw [if_neg hu] at hq
  have hrl : ((rs l).length : Int) = l.length := by simp
  refine ⟨fun hr => ?_, fun hr => ?_⟩
  · rw [if_pos (.inl hr)] at hq; exact hq l H9 kn fun h => by cases h
  refine ⟨_, s9.rings, _, rfl, fun hr2 => ?_, fun hr2 => ?_⟩
  · rw [if_pos (.inr (by rw [hrl]; exact hr2))] at hq; exact hq l H9 kn fun h => by cases h
  rw [if_neg (by rw [hrl]; omega)] at hq
  have hi : e.ring.toNat < l.length := by omega
  have er : ((e.ring.toNat : Nat) : Int) = e.ring := by omega
  refine ⟨fun h => ?_, fun h => ?_⟩
  · rw [if_pos h] at hq
    exact h2 s9 (by omega) hfl fun l' H' k' hd => ⟨_, rfl, hq l' H' (kn.tr k') hd⟩
  rw [if_neg h] at hq
  refine ⟨fun h => ?_, fun h => ?_⟩
  · rw [if_pos h] at hq
    have hptr := s9.ptr hi
    rw [er] at hptr
    exact ⟨_, s9.rings, _, _, hptr, h3 s9 hi hfl hp hok hcl fun l' H' k' hd => ⟨_, rfl, hq l' H' (kn.tr k') hd⟩⟩
  rw [if_neg h] at hq
  refine ⟨fun h => ?_, fun h => ?_⟩
  · rw [if_pos h] at hq
    have := h4 (fl := fl) (Q := fun v24 H23 => ∃ (r22 : Int), v24 = (.int .i64 r22) ∧ Q (.int .i64 r22) H23) s9 hi hfl hp hok hcl fun l' H' k' hd => ⟨_, rfl, hq l' H' (kn.tr k') hd⟩
    rw [er] at this
    exact this
  rw [if_neg h] at hq
  refine h5 s9 hfl hcl fun l' H' k' s' hl' => ⟨_, rfl, fun hh => ?_, fun hh => ?_⟩
  · rw [if_neg (by simpa using hh)] at hq; exact hq l' H' (kn.tr k') fun h => by cases h
  · rw [if_pos (by simpa using hh)] at hq; exact hq l' H' (kn.tr k') fun _ => ⟨s', hl'⟩

end Go.RM

/-
  Package rollout: Run and Versions.
-/
namespace Go.RM
set_option linter.unusedSimpArgs false
set_option linter.unusedVariables false
set_option maxRecDepth 4000

open Rol

/-- Rings, as they are read. -/
def tRing : Ty RS where
  e := 4
  rel H c r := ∃ v, c = ringC (v, r) ∧ Ints H v r.conf
  pos := by decide
  len h := by obtain ⟨v, rfl, _⟩ := h; rfl
  scal h := by obtain ⟨v, rfl, h⟩ := h; rw [List.all_cons, h.scal.2]; rfl
  keep k h := by obtain ⟨v, rfl, h⟩ := h; exact ⟨v, rfl, h.keep k⟩

variable {F : Nat → Option RFunc}
variable {n : Nat} {H H' : Heap} {pb b : Nat} {p : PP} {l : List (AV × RS)}

theorem Arr.ring {H : Heap} {v : AV} {l : List RS} (h : Arr tRing H v l) {i : Nat} (hi : i < l.length) : ∃ w, Ints H w l[i].conf ∧ getA H 4 (some 4) v (i : Int) 0 = some (.agg [w, i64 l[i].act, i64 l[i].good, i64 l[i].bad]) ∧ getA H 4 none v (i : Int) 0 = some w ∧ getA H 4 none v (i : Int) 1 = some (i64 l[i].act) ∧ getA H 4 none v (i : Int) 2 = some (i64 l[i].good) ∧ getA H 4 none v (i : Int) 3 = some (i64 l[i].bad) := by
  obtain ⟨c, ⟨w, rfl, hw⟩, h3, h4⟩ := h.get hi
  exact ⟨w, hw, h3, h4 0 _ rfl, h4 1 _ rfl, h4 2 _ rfl, h4 3 _ rfl⟩
/-- A part of an element. -/
theorem Sl.part {H : Heap} {v : AV} {e n : Nat} {cs : List AV} (h : Sl H e v n cs) {i o k : Nat} (hi : i < n) (ho : o + k ≤ e) {c : List AV} (hc : (cs.drop (i * e)).take e = c) : getA H e (some k) v i o = some (.agg ((c.drop o).take k)) := by
  rcases h.out with ⟨rfl, rfl, _⟩ | ⟨b, off, lim, kb, rfl, h2, h3, h4, h6, h5⟩
  · omega
  · have hm : i * e + e ≤ n * e := by
      have : (i + 1) * e ≤ n * e := Nat.mul_le_mul_right e hi
      rw [Nat.succ_mul] at this; omega
    show (if (0 : Int) ≤ i ∧ (i : Int) < n then rload H (some k) b (off + (i : Int).toNat * e + o) else none) = _
    rw [if_pos (by omega), Int.toNat_natCast]
    unfold rload
    rw [h2]
    simp only
    rw [if_pos (by omega)]
    congr 2
    rw [← hc, h5, List.drop_take, List.take_take, List.drop_drop, List.drop_take, List.drop_drop, List.take_take, Nat.add_assoc]
    congr 1
    omega
theorem Arr.ringCnt {H : Heap} {v : AV} {l : List RS} (h : Arr tRing H v l) {i : Nat} (hi : i < l.length) : getA H 4 (some 2) v (i : Int) 2 = some (.agg [i64 l[i].good, i64 l[i].bad]) := by
  obtain ⟨css, h1, h2⟩ := h
  obtain ⟨c, h3, w, rfl, h4⟩ := h1.get hi
  exact h2.part (o := 2) (k := 2) hi (by show 2 + 2 ≤ 4; decide) (flat_seg h1.lens h3)

theorem All2.map {α β γ : Type} {R : β → γ → Prop} {f : α → β} {g : α → γ} : ∀ {l : List α}, (∀ x ∈ l, R (f x) (g x)) → All2 R (l.map f) (l.map g)
  | [], _ => trivial
  | x :: l, h => ⟨h x (by simp), All2.map fun y hy => h y (by simp [hy])⟩

theorem rings_arr {H : Heap} {b : Nat} {l : List (AV × RS)} (row : MRow H b 4 (l.map ringC)) (own : ∀ x ∈ l, Ints H x.1 x.2.conf) (hsm : l.length ≤ 5) : Arr tRing H (.slice b 0 l.length (some l.length)) (rs l) := by
  obtain ⟨k, h1, h2, h3, h4⟩ := row.out
  have hfl := flat_len row.lens
  refine ⟨l.map ringC, All2.map fun x hx => ⟨x.1, rfl, own x hx⟩, ?_⟩
  rw [List.length_map] at hfl
  have e1 : (rs l).length = l.length := by simp
  rw [e1]
  refine ⟨by omega, .inr ⟨b, 0, some l.length, k, rfl, act_live h1 h2, h3, ?_, ?_, ?_⟩⟩
  · rw [h4, hfl]; show 0 + l.length * 4 ≤ _; omega
  · exact Nat.le_refl _
  · show _ = (k.cells.drop 0).take (l.length * 4)
    rw [h4, List.drop_zero, ← hfl, List.take_length]
theorem St.arr (h : St n H pb b p l) : Arr tRing H (.slice b 0 l.length (some l.length)) (rs l) := rings_arr h.row (fun x hx => (h.own x hx).ints) h.small

/-- Rings of blocks from n on. -/
def FreshR (n : Nat) (H : Heap) (w : AV) (R : List RS) : Prop := ∀ H2 : Heap, (∀ b, n ≤ b → b < H.length → H2[b]? = H[b]?) → Arr tRing H2 w R
theorem St.fresh (h : St n H pb b p l) : FreshR n H (.slice b 0 l.length (some l.length)) (rs l) := fun H2 hf =>
  rings_arr (h.row.frame (hf b h.lo h.row.lt)) (fun x hx => ((h.own x hx).frame fun c hc => hf c ((h.own x hx).at_lt hc).1 ((h.own x hx).at_lt hc).2).ints) h.small
theorem FreshR.nil {n : Nat} {H : Heap} : FreshR n H .empty [] := fun _ _ => Arr.nil

namespace Rol
def runL (p : PP) : List RS → Nat → List Ev → List RS × (Int × Int)
  | l, _, [] => (l, (0, 0))
  | l, i, e :: r => if (stepR p l e).1 ≠ 0 then ([], ((stepR p l e).1, (i : Int))) else runL p (stepR p l e).2 (i + 1) r
def zeroR : RS := ⟨[], 0, 0, 0⟩
def pre (rings : Int) (p : PP) (n : Nat) : Int × Int :=
  if rings < 1 ∨ rings > 5 then (3, -2) else if (decideR p.b1 p.b2 0 0 p.need p.pm).2.1 ≠ 0 then ((decideR p.b1 p.b2 0 0 p.need p.pm).2.1, -3) else if n > 40 then (2, -1) else (0, 0)
def runR (rings : Int) (p : PP) (es : List Ev) : List RS × (Int × Int) :=
  if (pre rings p es.length).1 ≠ 0 then ([], pre rings p es.length) else runL p (List.replicate rings.toNat zeroR) 0 es
def OkR (l : List RS) : Prop := ∀ r ∈ l, okC r.good r.bad
def lenLe (k : Nat) (l : List RS) : Prop := ∀ r ∈ l, r.conf.length ≤ k
end Rol

theorem mem_set_or {α : Type} {l : List α} {i : Nat} {x y : α} (h : y ∈ l.set i x) : y ∈ l ∨ y = x := List.mem_or_eq_of_mem_set h
theorem rg_mem {l : List RS} {i : Nat} (h : i < l.length) : rg l i ∈ l := by
  unfold rg; simp [List.getD, h]
theorem rm_len (v : Int) (l : List Int) : (rm v l).length ≤ l.length := by unfold rm; rw [List.length_eraseIdx]; split <;> omega

theorem okC00 : okC 0 0 := by unfold okC; omega
theorem rg_ok {l : List RS} (h : OkR l) (i : Nat) : okC (rg l i).good (rg l i).bad := by
  by_cases hi : i < l.length
  · exact h _ (rg_mem hi)
  · unfold rg; simp [List.getD, Nat.le_of_not_lt hi]; exact okC00
theorem rg_len {l : List RS} {k : Nat} (h : lenLe k l) (i : Nat) : (rg l i).conf.length ≤ k := by
  by_cases hi : i < l.length
  · exact h _ (rg_mem hi)
  · unfold rg; simp [List.getD, Nat.le_of_not_lt hi]
theorem abort_ok {l : List RS} {k : Nat} {v : Int} (h : OkR l) (h2 : lenLe k l) : OkR (l.map (abort1 v)) ∧ lenLe k (l.map (abort1 v)) ∧ (l.map (abort1 v)).length = l.length := by
  refine ⟨fun r hr => ?_, fun r hr => ?_, by simp⟩
  · obtain ⟨s, hs, rfl⟩ := List.mem_map.1 hr
    unfold abort1
    cases hitA v s with
    | true => exact okC00
    | false => exact h s hs
  · obtain ⟨s, hs, rfl⟩ := List.mem_map.1 hr
    exact Nat.le_trans (rm_len _ _) (h2 s hs)

theorem step_ok {l : List RS} {k : Nat} {e : Ev} (h : OkR l) (h2 : lenLe k l) : OkR (stepR p l e).2 ∧ lenLe (k + 1) (stepR p l e).2 ∧ (stepR p l e).2.length = l.length := by
  have h3 : lenLe (k + 1) l := fun r hr => Nat.le_succ_of_le (h2 r hr)
  have same : OkR l ∧ lenLe (k + 1) l ∧ l.length = l.length := ⟨h, h3, rfl⟩
  unfold stepR
  repeat' split
  all_goals try exact same
  · unfold startR
    repeat' split
    all_goals try exact same
    refine ⟨fun r hr => ?_, fun r hr => ?_, by simp⟩
    · rcases mem_set_or hr with hr | rfl
      · exact h r hr
      · exact rg_ok h 0
    · rcases mem_set_or hr with hr | rfl
      · exact h3 r hr
      · exact rg_len h3 0
  · unfold reportR
    have hset : okC ((rg l e.ring.toNat).good + e.g) ((rg l e.ring.toNat).bad + e.b) → OkR (l.set e.ring.toNat { rg l e.ring.toNat with good := (rg l e.ring.toNat).good + e.g, bad := (rg l e.ring.toNat).bad + e.b }) ∧ lenLe (k + 1) (l.set e.ring.toNat { rg l e.ring.toNat with good := (rg l e.ring.toNat).good + e.g, bad := (rg l e.ring.toNat).bad + e.b }) := fun hs => by
      refine ⟨fun r hr => ?_, fun r hr => ?_⟩
      · rcases mem_set_or hr with hr | rfl
        · exact h r hr
        · exact hs
      · rcases mem_set_or hr with hr | rfl
        · exact h3 r hr
        · exact rg_len h3 _
    split
    · exact same
    split
    · exact same
    split
    · exact same
    rename_i hs
    obtain ⟨g1, g2⟩ := hset (Decidable.not_not.1 hs)
    split
    · obtain ⟨x1, x2, x3⟩ := abort_ok (v := (rg l e.ring.toNat).act) g1 g2
      exact ⟨x1, x2, by rw [x3]; simp⟩
    · exact ⟨g1, g2, by simp⟩
  · unfold advanceR
    repeat' split
    all_goals try exact same
    · refine ⟨fun r hr => ?_, fun r hr => ?_, by simp⟩
      · rcases mem_set_or hr with hr | rfl
        · rcases mem_set_or hr with hr | rfl
          · exact h r hr
          · exact rg_ok h _
        · exact okC00
      · rcases mem_set_or hr with hr | rfl
        · rcases mem_set_or hr with hr | rfl
          · exact h3 r hr
          · exact rg_len h3 _
        · have := rg_len h2 e.ring.toNat
          simp only [List.length_append, List.length_singleton]; omega
    · refine ⟨fun r hr => ?_, fun r hr => ?_, by simp⟩
      · rcases mem_set_or hr with hr | rfl
        · exact h r hr
        · exact okC00
      · rcases mem_set_or hr with hr | rfl
        · exact h3 r hr
        · have := rg_len h2 e.ring.toNat
          simp only [List.length_append, List.length_singleton]; omega
  · exact ⟨(abort_ok h h3).1, (abort_ok h h3).2.1, by simp⟩

def tEv : Ty Ev := tEnc 5 evC (by decide) (fun _ => rfl) (fun _ => rfl)
theorem Arr.ev {H : Heap} {v : AV} {l : List Ev} (h : Arr tEv H v l) {i : Nat} (hi : i < l.length) : getA H 5 (some 5) v (i : Int) 0 = some (.agg (evC l[i])) := Arr.enc h hi

abbrev RunC (F : Nat → Option RFunc) (f : Nat) : Prop := ∀ {fl H Q v rings} {p : PP} {es : List Ev}, Arr tEv H v es → fl ≤ H.length → (∀ w H', Keep H.length H H' → Arr tRing H' w (runR rings p es).1 → Q (.tuple [w, fp (runR rings p es).2]) H') → Ret F fl f [i64 rings, cnt p.b1 p.b2, i64 p.need, i64 p.pm, v] H Q

theorem pre_ok {rings : Int} {p : PP} {n : Nat} (h : (pre rings p n).1 = 0) : 1 ≤ rings ∧ rings ≤ 5 ∧ n ≤ 40 ∧ OkP p := by
  unfold pre at h
  split at h
  · cases h
  · split at h
    · rename_i h1 h2; exact absurd h h2
    · rename_i h1 h2
      split at h
      · cases h
      · have h2 := Decidable.not_not.1 h2
        unfold decideR at h2
        split at h2
        · rename_i h3
          split at h2
          · rename_i h4
            unfold twoR at h3
            split at h3
            · rename_i h5; exact ⟨by omega, by omega, by omega, h5, h4⟩
            · cases h3
          · cases h2
        · rename_i h3; exact absurd h2 h3

abbrev RunFC (F : Nat → Option RFunc) (f : Nat) : Prop := ∀ {fl H Q v rings} {p : PP} {es : List Ev}, Arr tEv H v es → fl ≤ H.length → (∀ w H', Keep H.length H H' → FreshR H.length H' w (runR rings p es).1 → Q (.tuple [w, fp (runR rings p es).2]) H') → Ret F fl f [i64 rings, cnt p.b1 p.b2, i64 p.need, i64 p.pm, v] H Q
theorem runF_c {f n1 n2 : Nat} (hF : F f = some (rf_rollout_Run n1 n2)) (h1 : DecideC F n1) (h2 : StepC F n2) : RunFC F f := fun {fl H Q v rings p es} hv hfl hq => by
  refine v_rollout_Run hF _ _ _ _ _ _ ?_
  intro H6 d6 H7 d7
  have k7 := d6.keep.call d7.keep
  unfold runR at hq
  have hs := hv.small
  refine ⟨fun hb => ?_, fun hb => ?_⟩
  · have : pre rings p es.length = (3, -2) := by unfold pre; rw [if_pos hb]
    rw [this, if_pos (by decide)] at hq
    exact hq .empty H7 k7 FreshR.nil
  refine h1 (k7.fl hfl) fun H11 k11 => ⟨_, _, _, rfl, fun H13 d13 => ?_⟩
  have k13 := (k7.call k11).call d13.keep
  have hdi : ((decideR p.b1 p.b2 0 0 p.need p.pm).2.1 = 0 ∧ (decideR p.b1 p.b2 0 0 p.need p.pm).2.2 = 0 ∧ True) ↔ (decideR p.b1 p.b2 0 0 p.need p.pm).2.1 = 0 := ⟨fun h => h.1, fun h => ⟨h, by
    unfold decideR at h ⊢
    split at h
    · rename_i h3
      rw [if_pos h3]
      split at h
      · rename_i h4; rw [if_pos h4]
      · cases h
    · rename_i h3; exact absurd h h3, trivial⟩⟩
  rw [hdi]
  refine ⟨fun hd => ?_, fun hd => ⟨_, hv.len, fun hl => ?_, fun hl => ?_⟩⟩
  · have : pre rings p es.length = ((decideR p.b1 p.b2 0 0 p.need p.pm).2.1, -3) := by unfold pre; rw [if_neg hb, if_pos hd]
    rw [this, if_pos hd] at hq
    exact hq .empty H13 k13 FreshR.nil
  · have : pre rings p es.length = (2, -1) := by unfold pre; rw [if_neg hb, if_neg hd, if_pos (by omega)]
    rw [this, if_pos (by decide)] at hq
    exact hq .empty H13 k13 FreshR.nil
  have hpre : pre rings p es.length = (0, 0) := by unfold pre; rw [if_neg hb, if_neg hd, if_neg (by omega)]
  rw [hpre, if_neg (by decide)] at hq
  obtain ⟨p1, p2, p3, hP⟩ := pre_ok (rings := rings) (p := p) (n := es.length) (by rw [hpre])
  refine ⟨⟨by omega, Int.le_refl _, by omega, by omega⟩, fun b15 H16 hb15 b17 H18 hb17 => ?_⟩
  have k18 := (k13.call hb15.keep).call hb17.keep
  have b15e := hb15.b_eq
  have b17e := hb17.b_eq
  have k13l := k13.len
  have h16 := hb15.lt
  have hfl17 : fl ≤ b17 := by have := hb15.keep.len; omega
  obtain ⟨H19, a1, a2, a3⟩ := hb17.box.put (fl := fl) (o := 0) (n := 5) (v := .agg [i64 p.b1, i64 p.b2, i64 p.need, i64 p.pm, .slice b15 0 rings.toNat (some rings.toNat)]) rfl (by decide) rfl hfl17
  have k19 := k18.tr (a3.keep (n := H.length) (by have := hb15.keep.len; omega) (by have := k18.len; omega))
  refine ⟨H19, a1, _, hv.len, ?_⟩
  have st0 : St H.length H19 b17 b15 p (List.replicate rings.toNat (.empty, zeroR)) := by
    have hmem : ∀ x ∈ List.replicate rings.toNat (AV.empty, zeroR), x = (AV.empty, zeroR) := fun x hx => List.eq_of_mem_replicate hx
    refine { row := ?_, lo := by omega, own := ?_, sep := ?_, offb := ?_, ne := by omega, small := by rw [List.length_replicate]; omega, box := ?_ }
    · rw [List.map_replicate]
      have hm : MRow H16 b15 4 (List.replicate rings.toNat (ringC (AV.empty, zeroR))) := hb15.mrow _ rfl fun c hc => by rw [List.eq_of_mem_replicate hc]; rfl
      exact (hm.keep hb17.keep).frame (a3.get b15 (by omega))
    · intro x hx; rw [hmem x hx]; exact Own.nil
    · intro i j hi hj _ c hc
      rw [List.getElem_replicate] at hc
      exact absurd hc at_empty
    · intro x hx; rw [hmem x hx]; exact ⟨at_empty, at_empty⟩
    · rw [List.length_replicate]; exact a2
  refine ⟨fun m x y i H' => ∃ (j : Nat) (l : List (AV × RS)), i = j ∧ j + m = es.length ∧ x = 0 ∧ y = 0 ∧ Keep H.length H H' ∧ St H.length H' b17 b15 p l ∧ OkR (rs l) ∧ lenLe j (rs l) ∧ l.length = rings.toNat ∧ runL p (List.replicate rings.toNat zeroR) 0 es = runL p (rs l) j (es.drop j), es.length, ⟨0, _, rfl, by omega, rfl, rfl, k19, st0, ?_, ?_, by simp, by simp [rs]⟩, ?_⟩
  · intro r hr
    simp only [rs, List.map_replicate] at hr
    rw [List.eq_of_mem_replicate hr]; exact okC00
  · intro r hr
    simp only [rs, List.map_replicate] at hr
    rw [List.eq_of_mem_replicate hr]; exact Nat.le_refl _
  rintro m _ _ _ H' ⟨j, l, rfl, hm, rfl, rfl, hk, hst, hok, hln, hll, hrun⟩
  refine ⟨fun hlt => ?_, fun hge => ?_⟩
  · have hil : j < es.length := by omega
    rw [List.drop_eq_getElem_cons hil, runL] at hrun
    refine ⟨_, _, _, _, _, (hv.keep hk).ev hil, fun H40 d40 => ?_⟩
    have k40 := hk.call d40.keep
    have hok' : ∀ x ∈ l, okC x.2.good x.2.bad := fun x hx => hok _ (List.mem_map.2 ⟨x, hx, rfl⟩)
    have hln' : ∀ x ∈ l, x.2.conf.length ≤ 2 ^ 29 := fun x hx => by have := hln _ (List.mem_map.2 ⟨x, hx, rfl⟩); omega
    refine h2 (hst.keep d40.keep) hfl hP hok' hln' fun l' H42 k42 hd => ⟨_, rfl, fun hc => ?_, fun hc => ?_⟩
    · rw [if_pos hc] at hrun
      rw [hrun] at hq
      exact hq .empty H42 (k40.tr k42) FreshR.nil
    · rw [if_neg hc] at hrun
      obtain ⟨s', hl'⟩ := hd (Decidable.not_not.1 hc)
      obtain ⟨o1, o2, o3⟩ := step_ok (p := p) (e := es[j]) hok hln
      rw [← hl'] at o1 o2 o3 hrun
      refine ⟨m - 1, by omega, j + 1, l', wsucc hil hs, by omega, rfl, rfl, k40.tr k42, s', o1, o2, by simpa [hll] using o3, hrun⟩
  · rw [List.drop_eq_nil_of_le (by omega), runL] at hrun
    rw [hrun] at hq
    exact ⟨_, hst.rings, hq _ H' hk hst.fresh⟩

theorem run_of {f : Nat} (h : RunFC F f) : RunC F f := fun hv hfl hq => h hv hfl fun w H' k hw => hq w H' k (hw H' fun _ _ _ => rfl)
theorem run_c {f n1 n2 : Nat} (hF : F f = some (rf_rollout_Run n1 n2)) (h1 : DecideC F n1) (h2 : StepC F n2) : RunC F f := run_of (runF_c hF h1 h2)

/-! ### Versions -/

namespace Rol
def verR (r : RS) : Int := if r.act = 0 then lastI r.conf else r.act
end Rol

abbrev VersC (F : Nat → Option RFunc) (f : Nat) : Prop := ∀ {fl H Q v rings} {p : PP} {es : List Ev}, Arr tEv H v es → fl ≤ H.length → (∀ w H', Keep H.length H H' → Acc H tInt H' w ((runR rings p es).1.map verR) → Q (.tuple [w, fp (runR rings p es).2]) H') → Ret F fl f [i64 rings, cnt p.b1 p.b2, i64 p.need, i64 p.pm, v] H Q

theorem step_len {p : PP} {l : List RS} {e : Ev} : (stepR p l e).2.length = l.length := by
  unfold stepR
  split
  · rfl
  split
  · rfl
  split
  · rfl
  split
  · unfold startR; repeat' split
    all_goals simp
  split
  · unfold reportR; repeat' split
    all_goals simp
  split
  · unfold advanceR; repeat' split
    all_goals simp
  split <;> simp
theorem runL_len {p : PP} : ∀ {es : List Ev} {l : List RS} {i : Nat}, (runL p l i es).1.length ≤ l.length
  | [], l, i => Nat.le_refl _
  | e :: r, l, i => by
    rw [runL]
    split
    · simp
    · have h := runL_len (p := p) (es := r) (l := (stepR p l e).2) (i := i + 1)
      rw [step_len] at h; exact h
theorem runR_len {rings : Int} {p : PP} {es : List Ev} : (runR rings p es).1.length ≤ 5 := by
  unfold runR
  split
  · simp
  · rename_i h
    obtain ⟨h1, h2, _⟩ := pre_ok (Decidable.not_not.1 h)
    have := runL_len (p := p) (es := es) (l := List.replicate rings.toNat zeroR) (i := 0)
    rw [List.length_replicate] at this; omega

theorem vers_c {f n1 n2 : Nat} (hF : F f = some (rf_rollout_Versions n1 n2)) (h1 : RunC F n1) (h2 : LastC F n2) : VersC F f := fun {fl H Q v rings p es} hv hfl hq => by
  refine v_rollout_Versions hF _ _ _ _ _ _ ?_
  intro H6 d6 H7 d7
  have k7 := d6.keep.call d7.keep
  refine h1 (hv.keep k7) (k7.fl hfl) fun w H11 k11 hw => ⟨_, _, _, rfl, fun H13 d13 => ?_⟩
  have k13 := (k7.call k11).call d13.keep
  have hw := hw.keep d13.keep
  have hs := hw.small
  have hlen := runR_len (rings := rings) (p := p) (es := es)
  generalize hR : (runR rings p es).1 = R at hw hq hs hlen
  have fl13 := k13.fl hfl
  refine ⟨_, hw.len, fun m i out H' => ∃ j : Nat, i = j ∧ j + m = R.length ∧ Keep H13.length H13 H' ∧ Acc H13 tInt H' out ((R.take j).map verR), R.length, ⟨0, rfl, by omega, Keep.refl _, Acc.nil⟩, ?_⟩
  rintro m _ out H' ⟨j, rfl, hm, hk, hout⟩
  refine ⟨fun hlt => ?_, fun hge => ?_⟩
  · have hil : j < R.length := by omega
    have hlj : ((R.take j).map verR).length + 1 ≤ 2 ^ 30 := by rw [List.length_map, List.length_take]; omega
    have hnext : (R.take (j + 1)).map verR = (R.take j).map verR ++ [verR R[j]] := by rw [List.take_succ_eq_append_getElem hil, List.map_append]; rfl
    obtain ⟨w', hw', g1, _⟩ := (hw.keep hk).ring hil
    refine ⟨_, _, _, _, g1, fun H30 d30 => ⟨hw'.scal, fun hz => ?_, fun hz => ?_⟩⟩
    · refine h2 (hw'.keep d30.keep) fun H33 k33 => ⟨_, rfl, fun b35 H36 hb36 => ?_⟩
      have k33' := d30.keep.call k33
      obtain ⟨r', H38, a1, a2, a3, _⟩ := (hout.keep k33').push (fl := fl) (free := true) (bytes := 8) (a := lastI R[j].conf) rfl hb36 (hk.call k33') fl13 hlj (by decide)
      refine ⟨r', H38, a1, m - 1, by omega, j + 1, wsucc hil hs, by omega, a3, ?_⟩
      rw [hnext]; unfold verR at a2 ⊢; rw [if_pos hz]; exact a2
    · intro b40 H41 hb41
      obtain ⟨r', H43, a1, a2, a3, _⟩ := (hout.keep d30.keep).push (fl := fl) (free := true) (bytes := 8) (a := R[j].act) rfl hb41 (hk.call d30.keep) fl13 hlj (by decide)
      refine ⟨r', H43, a1, m - 1, by omega, j + 1, wsucc hil hs, by omega, a3, ?_⟩
      rw [hnext]; unfold verR at a2 ⊢; rw [if_neg hz]; exact a2
  · rw [List.take_of_length_le (by omega)] at hout
    exact hq out H' (k13.call hk) (hout.of tInt.plain k13.len)

end Go.RM

